/- The contract of a function that ranges over a function which gives nothing. -/
import Derived.Test.YtafaeibcpanaeaaGreatDoorV24
namespace Go.VII
noncomputable section
variable {P : Program} {X : Cx} {ρ : Rho} {h : AH} {w : World} {ext : FuncId → Option Spec}
abbrev ResM := Res × Option Nat
def arunR (P : Program) (G : GS) (ext : FuncId → Option Spec) (dr : DrawF) (call : CallF) (loop : LoopF) : Code → Option Nat → AFr → AH → Option ResM
  | .rangeFunc g _ _ _, m, fr, h => (match m with
    | some _ => none
    | none => match fr.d with
      | [] => (match arng P G ext dr call loop g fr h with
        | none => none
        | some (fr1, h1) => some ((.normal, fr1, h1), some h.next))
      | _ => none)
  | .seq a b, m, fr, h => (match arunR P G ext dr call loop a m fr h with
    | none => none
    | some ((x, fr1, h1), m1) => match x with
      | .normal => arunR P G ext dr call loop b m1 fr1 h1
      | x => some ((x, fr1, h1), m1))
  | .block id c, m, fr, h => (match arunR P G ext dr call loop c m fr h with
    | none => none
    | some ((x, fr1, h1), m1) => match x with
      | .exit id' => bif Nat.beq id' id then some ((.normal, fr1, h1), m1) else some ((.exit id', fr1, h1), m1)
      | x => some ((x, fr1, h1), m1))
  | c, m, fr, h => match arunC P G ext dr call loop c fr h with
    | none => none
    | some r => some (r, m)
/-- What lies behind a mark. -/
def MOk (ρ : Rho) (h : AH) (w : World) (b : Nat) : Option Nat → Prop
  | none => True
  | some N => ∃ bi, ρ N = some bi ∧ b ≤ bi.blk ∧ bi.blk < w.heap.size ∧ w.heap[bi.blk]? = some (.deferred (some [])) ∧ ¬ Owned ρ h bi.blk
theorem MOk.extd {ρ' : Rho} {h' : AH} {w' : World} {b : Nat} {m : Option Nat} (k : MOk ρ h w b m) (x : Ext ρ h w ρ' h' w') : MOk ρ' h' w' b m := by
  cases m with
  | none => trivial
  | some N =>
    obtain ⟨bi, k1, k2, k3, k4, k5⟩ := k
    obtain ⟨e1, e2⟩ := x.bare k3 k5
    exact ⟨bi, x.le _ _ k1, k2, Nat.lt_of_lt_of_le k3 x.size, e1.trans k4, e2⟩
def OutM (X : Cx) (ρ : Rho) (h : AH) (w : World) (b : Nat) (res : ResM) (e : Exit) (a : Act) (w' : World) : Prop :=
  ∃ ρ', ExR ρ' res.1.1 e ∧ FRel ρ' res.1.2.1 a ∧ Rel X ρ' res.1.2.2 w' ∧ Ext ρ h w ρ' res.1.2.2 w' ∧ MOk ρ' res.1.2.2 w' b res.2
theorem OutM.trans {ρ1 : Rho} {h1 : AH} {w1 : World} {b : Nat} {res : ResM} {e : Exit} {a : Act} {w' : World} (x : Ext ρ h w ρ1 h1 w1) (o : OutM X ρ1 h1 w1 b res e a w') : OutM X ρ h w b res e a w' := by
  obtain ⟨ρ', a1, a2, a3, a4, a5⟩ := o
  exact ⟨ρ', a1, a2, a3, x.trans a4, a5⟩
section
variable {G : GS} {dr : DrawF} {call : CallF} {loop : LoopF}
theorem arunR_next (ok : Okay P G ext) (hd : DrawSound P G dr) (hc : CallSound P G call) (hl : LoopSound P G loop) : ∀ {c : Code} {m : Option Nat} {fr : AFr} {h : AH} {res : ResM}, arunR P G ext dr call loop c m fr h = some res → h.next ≤ res.1.2.2.next := by
  intro c
  induction c with
  | rangeFunc g ps asg bd =>
    intro m fr h res e
    simp only [arunR] at e
    split at e
    · cases e
    · split at e
      · split at e
        · cases e
        · rename_i ha; cases e; have := arng_next ok hd hc hl ha; simp only; omega
      · cases e
  | seq a b iha ihb =>
    intro m fr h res e
    simp only [arunR] at e
    split at e
    · cases e
    · rename_i x fr1 h1 m1 ha
      have h1' := iha ha
      split at e
      · exact Nat.le_trans h1' (ihb e)
      · cases e; exact h1'
  | block id c ih =>
    intro m fr h res e
    simp only [arunR] at e
    split at e
    · cases e
    · rename_i x fr1 h1 m1 ha
      have h1' := ih ha
      split at e
      · rename_i id'
        cases hb : Nat.beq id' id with
        | true => rw [hb] at e; cases e; exact h1'
        | false => rw [hb] at e; cases e; exact h1'
      · cases e; exact h1'
  | skip | label _ | region _ _ _ | cond _ _ _ | scope _ | loop _ | exit _ | ret | goto _ | refuse _ =>
    intro m fr h res e
    simp only [arunR] at e
    split at e
    · cases e
    · rename_i r hr; cases e; exact arunC_next ok hd hc hl hr
end
theorem arunR_sound {dr : DrawF} {call : CallF} {loop : LoopF} (ok : Okay P X.G ext) (hd : DrawSound P X.G dr) (hc : CallSound P X.G call) (hl : LoopSound P X.G loop) : ∀ {c : Code} {m : Option Nat} {fr : AFr} {h : AH} {res : ResM} {ρ : Rho} {w : World} {a : Act} {b : Nat},
    arunR P X.G ext dr call loop c m fr h = some res → FRel ρ fr a → Rel X ρ h w → Room X w res.1.2.2 → MOk ρ h w b m → b ≤ w.heap.size → ∀ (Q : Exit → Act → World → Prop), (∀ e a' w', OutM X ρ h w b res e a' w' → Q e a' w') → c.wp P Q a w := by
  intro c
  have dflt : ∀ (c : Code) {m : Option Nat} {fr : AFr} {h : AH} {res : ResM} {ρ : Rho} {w : World} {a : Act} {b : Nat},
    (match arunC P X.G ext dr call loop c fr h with | none => none | some r => some (r, m)) = some res → FRel ρ fr a → Rel X ρ h w → Room X w res.1.2.2 → MOk ρ h w b m → b ≤ w.heap.size → ∀ (Q : Exit → Act → World → Prop), (∀ e a' w', OutM X ρ h w b res e a' w' → Q e a' w') → c.wp P Q a w := by
    intro c m fr h res ρ w a b e hf r hB hm hbs Q hQ
    split at e
    · cases e
    · rename_i r0 hr
      cases e
      refine arunC_sound ok hd hc hl hr hf trivial r hB Q fun e a' w' ho => hQ _ _ _ ?_
      obtain ⟨ρ', o1, o2, _, o4, o5⟩ := ho
      exact ⟨ρ', o1, o2, o4, o5, hm.extd o5⟩
  induction c with
  | rangeFunc g ps asg bd =>
    intro m fr h res ρ w a b e hf r hB hm hbs Q hQ
    simp only [arunR] at e
    split at e
    · cases e
    · split at e
      · rename_i hfd
        split at e
        · cases e
        · rename_i fr1 h1 ha
          cases e
          refine arng_sound ok hd hc hl ha hf hfd r hB Q fun ρ' w' D bi q1 q2 q3 q4 q5 q6 q7 q8 q9 => hQ _ _ _ ?_
          subst q5
          exact ⟨ρ', trivial, q3, q1, q2, bi, q4, by omega, q7, q8, q9⟩
      · cases e
  | seq x y ihx ihy =>
    intro m fr h res ρ w a b e hf r hB hm hbs Q hQ
    simp only [arunR] at e
    split at e
    · cases e
    · rename_i x fr1 h1 m1 ha
      refine wp_seq ?_
      split at e
      · have hnx := arunR_next ok hd hc hl e
        refine ihx ha hf r (hB.of (Nat.le_refl _) hnx) hm hbs _ fun ex a' w' ho => ?_
        obtain ⟨ρ1, o1, o2, o4, o5, o6⟩ := ho
        cases ex <;> first | exact o1.elim | skip
        exact ihy e o2 o4 (hB.of o5.size (Nat.le_refl _)) o6 (Nat.le_trans hbs o5.size) Q fun e2 a2 w2 ho2 => hQ e2 a2 w2 (ho2.trans o5)
      · rename_i hnn
        cases e
        refine ihx ha hf r hB hm hbs _ fun ex a' w' ho => ?_
        cases ex with
        | normal =>
          obtain ⟨ρ1, o1, _⟩ := ho
          cases x with
          | normal => exact absurd rfl hnn
          | panic v => obtain ⟨v', _, hh⟩ := o1; cases hh
          | exit id => exact o1.elim
          | ret => exact o1.elim
        | exit id => exact hQ _ _ _ ho
        | goto l => exact hQ _ _ _ ho
        | ret => exact hQ _ _ _ ho
        | panic ch => exact hQ _ _ _ ho
        | outgrown => exact hQ _ _ _ ho
  | block id c ih =>
    intro m fr h res ρ w ac b e hf r hB hm hbs Q hQ
    simp only [arunR] at e
    split at e
    · cases e
    · rename_i x fr1 h1 m1 ha
      refine wp_block ?_
      split at e
      · rename_i id'
        have hres : res.1.2.2 = h1 ∧ res.1.2.1 = fr1 ∧ res.2 = m1 ∧ (if id' = id then res.1.1 = .normal else res.1.1 = .exit id') := by
          cases hb : Nat.beq id' id with
          | true => rw [hb] at e; cases e; exact ⟨rfl, rfl, rfl, by rw [if_pos (beq_tt.1 hb)]⟩
          | false => rw [hb] at e; cases e; exact ⟨rfl, rfl, rfl, by rw [if_neg (beq_ff.1 hb)]⟩
        obtain ⟨⟨x2, fr2, h2⟩, m2⟩ := res
        obtain ⟨rfl, rfl, rfl, hx⟩ := hres
        refine ih ha hf r hB hm hbs _ fun ex a' w' ho => ?_
        obtain ⟨ρ1, o1, o2, o4, o5, o6⟩ := ho
        cases ex <;> first | exact o1.elim | skip
        rename_i j
        have hj : id' = j := o1
        subst hj
        simp only [Exit.inBlock]
        split
        · rename_i hid; rw [if_pos hid] at hx; simp only at hx; subst hx; exact hQ _ _ _ ⟨ρ1, trivial, o2, o4, o5, o6⟩
        · rename_i hid; rw [if_neg hid] at hx; simp only at hx; subst hx; exact hQ _ _ _ ⟨ρ1, rfl, o2, o4, o5, o6⟩
      · rename_i hne
        cases e
        refine ih ha hf r hB hm hbs _ fun ex a' w' ho => ?_
        cases ex with
        | exit j =>
          obtain ⟨ρ1, o1, _⟩ := ho
          cases x with
          | exit id' => exact absurd rfl (hne id')
          | panic v => obtain ⟨v', _, hh⟩ := o1; cases hh
          | normal => exact o1.elim
          | ret => exact o1.elim
        | normal => exact hQ _ _ _ ho
        | goto l => exact hQ _ _ _ ho
        | ret => exact hQ _ _ _ ho
        | panic ch => exact hQ _ _ _ ho
        | outgrown => exact hQ _ _ _ ho
  | skip | label _ | region _ _ _ | cond _ _ _ | scope _ | loop _ | exit _ | ret | goto _ | refuse _ =>
    intro m fr h res ρ w a b e hf r hB hm hbs Q hQ
    simp only [arunR] at e
    exact dflt _ e hf r hB hm hbs Q hQ
def isMark (N : Nat) : FuncId × List Value → Bool
  | (g, [.pointer (some ⟨n, 0, some 0⟩)]) => Nat.beq g MARK && Nat.beq n N
  | _ => false
theorem isMark_eq {N : Nat} {p : FuncId × List Value} (e : isMark N p = true) : p = (MARK, [.pointer (some ⟨N, 0, some 0⟩)]) := by
  unfold isMark at e
  split at e
  · simp only [Bool.and_eq_true] at e
    rw [beq_tt.1 e.1, beq_tt.1 e.2]
  · cases e
def leaveM (P : Program) (fn : Func) (m : Option Nat) (fr1 : AFr) (h1 : AH) : Option (Value × AH) :=
  match m with
  | none => none
  | some N => match fr1.d with
    | [p] => bif isMark N p then (match aresults P fn fr1 h1 with
      | some v => some (v, h1)
      | none => none) else none
    | _ => none
theorem leaveM_some {fn : Func} {m : Option Nat} {fr1 : AFr} {h1 h2 : AH} {v : Value} (e : leaveM P fn m fr1 h1 = some (v, h2)) : ∃ N, m = some N ∧ fr1.d = [(MARK, [.pointer (some ⟨N, 0, some 0⟩)])] ∧ aresults P fn fr1 h1 = some v ∧ h1 = h2 := by
  unfold leaveM at e
  split at e
  · cases e
  · rename_i N
    split at e
    · rename_i p hd
      obtain ⟨e1, e2⟩ := bif_some e
      split at e2
      · rename_i u hu
        cases e2
        exact ⟨N, rfl, by rw [hd, isMark_eq e1], hu, rfl⟩
      · cases e2
    · cases e
/-- The contract. -/
def specR (P : Program) (G : GS) (ext : FuncId → Option Spec) (dr : DrawF) (s : Sm) (f : FuncId) : Spec := fun args h =>
  match P.funcs[f]? with
  | none => none
  | some fn => match fn.body with
    | none => none
    | some c => match ainit fn args with
      | none => none
      | some fr => match arunR P G ext dr s.call s.loop c none fr h with
        | none => none
        | some ((x, fr1, h1), m) => match x with
          | .normal | .ret => leaveM P fn m fr1 h1
          | _ => none
theorem specR_some {G : GS} {dr : DrawF} {s : Sm} {f : FuncId} {args : List Value} {h h1 : AH} {v : Value} (e : specR P G ext dr s f args h = some (v, h1)) :
    ∃ fn c fr x fr1 N, P.funcs[f]? = some fn ∧ fn.body = some c ∧ ainit fn args = some fr ∧ arunR P G ext dr s.call s.loop c none fr h = some ((x, fr1, h1), some N) ∧ (x = .normal ∨ x = .ret) ∧ fr1.d = [(MARK, [.pointer (some ⟨N, 0, some 0⟩)])] ∧ aresults P fn fr1 h1 = some v := by
  unfold specR at e
  split at e
  · cases e
  rename_i fn hfn
  split at e
  · cases e
  rename_i c hb
  split at e
  · cases e
  rename_i fr hi
  split at e
  · cases e
  rename_i x fr1 h2 m hrun
  split at e
  · obtain ⟨N, rfl, h2, h3, rfl⟩ := leaveM_some e
    exact ⟨fn, c, fr, .normal, fr1, N, hfn, hb, hi, hrun, .inl rfl, h2, h3⟩
  · obtain ⟨N, rfl, h2, h3, rfl⟩ := leaveM_some e
    exact ⟨fn, c, fr, .ret, fr1, N, hfn, hb, hi, hrun, .inr rfl, h2, h3⟩
  · cases e
theorem specR_sound {G : GS} {dr : DrawF} {s : Sm} (ok : Okay P G ext) (hd : DrawSound P G dr) (hc : CallSound P G s.call) (hl : LoopSound P G s.loop) {f : FuncId} {args : List Value} {h h1 : AH} {v : Value} (e : specR P G ext dr s f args h = some (v, h1)) :
    h.next ≤ h1.next ∧ ∀ (X : Cx) ρ w args', X.G = G → Rel X ρ h w → Room X w h1 → VRL ρ args args'.toList → Calls P f args' w (CPost X ρ h w (.ret v h1)) := by
  obtain ⟨fn, c, fr, x, fr1, N, hfn, hb, hi, hrun, hx, hd1, hv⟩ := specR_some e
  refine ⟨arunR_next ok hd hc hl hrun, fun X ρ w args' hG r hB ha => ?_⟩
  subst hG
  refine (callsIn_wide (n := 0)).1 (callsIn_of_wp_marks hfn hb trivial (wpIn_wide.2 (arunR_sound ok hd hc hl hrun (ainit_rel hi ha) r hB (b := w.heap.size) trivial (Nat.le_refl _) _ fun ex a' w' ho => ?_)))
  obtain ⟨ρ', o1, o2, o4, o5, bi, m1, m2, m3, m4, m5⟩ := ho
  have hdd := o2.3
  rw [hd1] at hdd
  obtain ⟨bi', dd', k1, k2, k3⟩ := hdd.inv_mark
  rw [m1] at k1; cases k1
  have hnil : dd' = [] := by cases k3; rfl
  subst hnil
  have r2 := o4.putBare m5 (by have := hB.1; omega) (.deferred none)
  have x2 := o5.putBehind m2 (.deferred none)
  obtain ⟨v', q1, q2⟩ := aresults_sound (P := P) r2 (a := a') ⟨o2.1, o2.2, o2.3⟩ hv
  have fin : LeavesInM Fence.wide 0 P fn a'.tmps (CPost X ρ h w (.ret v h1)) a'.defers .returning w' := by
    rw [k2]
    refine ⟨by simp, .inl ⟨bi.blk, _, rfl, run_takeDeferred m4, ?_⟩⟩
    exact ⟨v', q1, v', ρ', rfl, q2, r2, x2⟩
  rcases hx with hx | hx
  · simp only [hx] at o1; cases ex <;> first | exact o1.elim | exact fin
  · simp only [hx] at o1; cases ex <;> first | exact o1.elim | exact fin
end
end Go.VII
