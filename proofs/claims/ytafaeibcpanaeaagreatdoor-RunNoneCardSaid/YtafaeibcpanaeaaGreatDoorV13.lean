/- One operation is sound: what it comes to over the heap of names it comes to in the model. -/
import Derived.Test.YtafaeibcpanaeaaGreatDoorV12
import Derived.Laws.LoneSync
namespace Go.VII
noncomputable section
variable {P : Program} {X : Cx} {ρ : Rho} {h : AH} {w : World} {ext : FuncId → Option Spec}
def OpPost (P : Program) (X : Cx) (ρ : Rho) (h : AH) (w : World) (a : Act) (o : Oper) : ANext → Prop
  | .value v h1 => ∃ v' w' ρ', (∀ (K : Act → World → Prop) (Q : Exit → Act → World → Prop), K (a.put o.dst v') w' → o.wp P a w K Q) ∧ VR ρ' v v' ∧ Rel X ρ' h1 w' ∧ Ext ρ h w ρ' h1 w'
  | .enter f args => ∃ (args' : Array Value) (fn : Func), P.funcs[f]? = some fn ∧ fn.body.isSome = true ∧ VRL ρ args args'.toList ∧
      ∀ (K : Act → World → Prop) (Q : Exit → Act → World → Prop), Calls P f args' w (fun e w'' => match e with
        | .returned v => K (a.put o.dst v) w''
        | .panicked chain => Q (.panic chain) a w''
        | .outgrown => LetsOut Q) → o.wp P a w K Q
  | .defer g args => ∃ as cap : Array Value, VRL ρ args (as ++ cap).toList ∧ (∃ fn, P.funcs[g]? = some fn ∧ fn.body.isSome = true) ∧
      ∀ (K : Act → World → Prop) (Q : Exit → Act → World → Prop), K ({ a with defers := { target := .fn (.func g) cap, args := as } :: a.defers }.put o.dst undef) w → o.wp P a w K Q
  | .panic v => ∃ v', VR ρ v v' ∧ ∀ (K : Act → World → Prop) (Q : Exit → Act → World → Prop), Q (.panic [{ v := v', recovered := false }]) a w → o.wp P a w K Q
variable {a : Act} {o : Oper} {f : Ev} {nx : ANext}
theorem post_gives {s : Sem Value} {u : Value} {h1 : AH} (hex : execOp a.eval o = (do pure (Next.value (← s)))) (g : Gives P X ρ h w s u h1) : OpPost P X ρ h w a o (.value u h1) := by
  obtain ⟨u', w', ρ', g1, g2, g3, g4⟩ := g
  refine ⟨u', w', ρ', fun K Q hK => ?_, g2, g3, g4⟩
  unfold Oper.wp
  rw [hex]
  simp only [Sem.run_bind, g1, Result.andThen_ok, Sem.run_pure]
  exact hK
theorem post_pure {s : Sem Value} {u : Value} (r : Rel X ρ h w) (hex : execOp a.eval o = (do pure (Next.value (← s)))) (g : ∃ u', s.run P w = .ok u' w ∧ VR ρ u u') : OpPost P X ρ h w a o (.value u h) := by
  obtain ⟨u', g1, g2⟩ := g
  exact post_gives hex ⟨u', w, ρ, g1, g2, r, .refl _ _ _⟩
theorem post_flat {s : Sem Value} {u : Value} (r : Rel X ρ h w) (hex : execOp a.eval o = (do pure (Next.value (← s)))) (g : s.run P w = .ok u w ∧ isFlat u = true) : OpPost P X ρ h w a o (.value u h) :=
  post_pure r hex ⟨u, g.1, .flat g.2⟩
theorem post_val {u u' : Value} (r : Rel X ρ h w) (hex : execOp a.eval o = pure (Next.value u')) (g : VR ρ u u') : OpPost P X ρ h w a o (.value u h) :=
  post_pure (s := pure u') r (by rw [hex]; rfl) ⟨u', rfl, g⟩
theorem post_does {s : Sem Unit} {h1 : AH} (hex : execOp a.eval o = (do s; pure Next.skip)) (g : Does P X ρ h w s h1) : OpPost P X ρ h w a o (.value (.tuple #[]) h1) := by
  obtain ⟨w', ρ', g1, g3, g4⟩ := g
  refine ⟨undef, w', ρ', fun K Q hK => ?_, .tuple .nil, g3, g4⟩
  unfold Oper.wp
  rw [hex]
  simp only [Sem.run_bind, g1, Result.andThen_ok, Sem.run_pure]
  exact hK
theorem callFunc_body (ok : Okay P X.G ext) {g : FuncId} {fn : Func} {c : Code} (hfn : P.funcs[g]? = some fn) (hb : fn.body = some c) (args : Array Value) : (callFunc g args).run P w = .ok (.enter g args) w := by
  unfold callFunc
  have hn := ok.names g fn hfn
  simp only [Sem.run_bind, run_program, Result.andThen_ok, hfn, hn, Bool.false_eq_true, if_false, hb, Option.isNone_some, Sem.run_pure]
def RoomN (X : Cx) (w : World) : ANext → Prop
  | .value _ h1 => Room X w h1
  | _ => X.B ≤ w.heap.size
theorem acallee_sound (ok : Okay P X.G ext) (r : Rel X ρ h w) (hB : RoomN X w nx) {g : FuncId} {args : List Value} {args' : Array Value} (e : acallee P ext h g args = some nx) (ha : VRL ρ args args'.toList)
    (hex : (execOp a.eval o).run P w = (callFunc g args').run P w) : OpPost P X ρ h w a o nx := by
  unfold acallee at e
  cases hfn : P.funcs[g]? with
  | none => simp [hfn] at e
  | some fn =>
    simp only [hfn] at e
    cases hb : fn.body with
    | some c =>
      simp only [hb, Option.some.injEq] at e; subst e
      refine ⟨args', fn, hfn, by simp [hb], ha, fun K Q hK => ?_⟩
      unfold Oper.wp
      rw [hex, callFunc_body ok hfn hb]
      rw [Oper.upon_enter]
      exact hK.mono fun e w'' he => by cases e <;> exact he
    | none =>
      simp only [hb] at e
      cases hx : ext g with
      | none => simp [hx] at e
      | some sp =>
        simp only [hx] at e
        cases hs : sp args h with
        | none => simp [hs] at e
        | some p =>
          obtain ⟨v, h1⟩ := p
          simp only [hs, Option.some.injEq] at e; subst e
          obtain ⟨v', w', ρ', g1, g2, g3, g4⟩ := ok.ext g fn sp hfn hb hx args h v h1 hs X ρ w args'.toList rfl r hB ha
          refine ⟨v', w', ρ', fun K Q hK => ?_, g2, g3, g4⟩
          unfold Oper.wp
          rw [hex]
          have : args'.toList.toArray = args' := by simp
          rw [this] at g1
          rw [g1]
          exact hK
theorem optv_sound (hf : EvR ρ f a.eval) {x : Option Operand} {v : Option Value} (e : optv f x = some v) : OVR ρ v (x.map a.eval) := by
  unfold optv at e
  cases x with
  | none => simp only [Option.some.injEq] at e; subst e; trivial
  | some x =>
    simp only at e
    cases hx : f x with
    | none => simp [hx] at e
    | some u => simp only [hx, Option.some.injEq] at e; subst e; exact hf x u hx
theorem optv_int (hf : EvR ρ f a.eval) {x : Option Operand} {v : Option Value} (e : optv f x = some v) (hi : ∀ u, v = some u → isFlat u = true) : x.map a.eval = v := by
  have := optv_sound hf e
  cases v with
  | none => cases hx : x.map a.eval with
    | none => rfl
    | some q => rw [hx] at this; exact this.elim
  | some u => cases hx : x.map a.eval with
    | none => rw [hx] at this; exact this.elim
    | some q => rw [hx] at this; rw [VR.flat_eq this (hi u rfl)]
theorem abounds_flat {len cap : Nat} {lo hi : Option Value} {p : Nat × Nat} (e : abounds len cap lo hi = some p) : (∀ u, lo = some u → isFlat u = true) ∧ (∀ u, hi = some u → isFlat u = true) := by
  have hb : ∀ {y : Nat} {v : Value} {k : Nat}, abound y v = some k → isFlat v = true := by
    intro y v k hk
    unfold abound at hk
    split at hk
    · rfl
    · cases hk
  unfold abounds at e
  split at e
  · cases e
  · rename_i x hx
    split at e
    · cases e
    · rename_i l hl
      constructor
      · rintro u rfl; exact hb hl
      · rintro u rfl; exact hb hx
theorem asl_flat {t : TypeId} {v u : Value} {lo hi : Option Value} (e : asl P h t v lo hi = some u) : (∀ u, lo = some u → isFlat u = true) ∧ (∀ u, hi = some u → isFlat u = true) := by
  unfold asl at e
  split at e
  · split at e
    · split at e
      · cases e
      · rename_i hb; exact abounds_flat hb
    · cases e
  · split at e
    · split at e
      · cases e
      · rename_i hb; exact abounds_flat hb
    · split at e
      · cases e
      · rename_i hb; exact abounds_flat hb
    · cases e
  · split at e
    · split at e
      · cases e
      · rename_i hb; exact abounds_flat hb
    · cases e
  · cases e
theorem aval_some {v : Option Value} (e : aval h v = some nx) : ∃ u, v = some u ∧ nx = .value u h := by
  cases v with
  | none => simp [aval] at e
  | some u => simp only [aval, Option.some.injEq] at e; exact ⟨u, rfl, e.symm⟩
theorem avh_some {v : Option (Value × AH)} (e : avh v = some nx) : ∃ u h1, v = some (u, h1) ∧ nx = .value u h1 := by
  cases v with
  | none => simp [avh] at e
  | some p => obtain ⟨u, h1⟩ := p; simp only [avh, Option.some.injEq] at e; exact ⟨u, h1, rfl, e.symm⟩
theorem ah_some {v : Option AH} (e : ah v = some nx) : ∃ h1, v = some h1 ∧ nx = .value (.tuple #[]) h1 := by
  cases v with
  | none => simp [ah] at e
  | some p => simp only [ah, Option.some.injEq] at e; exact ⟨p, rfl, e.symm⟩
theorem concreteT_eq {t : TypeId} (e : concreteT P t = true) (x : Value) : (Instr.makeInterface t x).run P w = .ok (.iface t x) w := by
  unfold concreteT at e
  split at e
  · cases e
  · rename_i d hn hu
    unfold Instr.makeInterface
    simp only [Sem.run_bind, run_underlying hu, Result.andThen_ok]
    cases d <;> first | rfl | (exact absurd hu (by simpa using hn _))
  · cases e
theorem aunsafe_sound (r : Rel X ρ h w) {s d : TypeId} {x x' u : Value} (e : aunsafe P h s d x = some u) (hx : VR ρ x x') : ∃ u', (convert s d x').run P w = .ok u' w ∧ VR ρ u u' := by
  unfold aunsafe at e
  split at e
  · rename_i n o
    split at e
    · rename_i t hs hd
      split at e
      · cases e
      · rename_i i hi
        cases hz : Nat.beq i.size 0 with
        | true => rw [hz] at e; cases e
        | false =>
          rw [hz] at e
          simp only [cond_false] at e
          split at e
          · rename_i esz rw' c hg
            split at e
            · rename_i v hv
              simp only [Option.some.injEq] at e; subst e
              obtain ⟨bi, hb, rfl, _⟩ := hx.pointer
              obtain ⟨_, rc, ty, fz, h1, h2, h3, h4, h5⟩ := r.cellsAt hg hb
              obtain ⟨v', g1, g2⟩ := h4 o _ hv
              have hc : w.cell? ⟨bi.blk, bi.base + o, none⟩ = some v' := by simp [World.cell?, h1, g1]
              exact ⟨_, run_convert_to_unsafe hs hd (by simp [hi, beq_ff.1 hz]) hc, .ptr hb⟩
            · cases e
          · cases e
    · cases e
  · cases e
theorem atassert_sound {t xt : TypeId} {x x' u : Value} (e : atassert P t x = some u) (hx : VR ρ x x') : ∃ u', (Instr.typeAssert x' xt t true).run P w = .ok u' w ∧ VR ρ u u' := by
  unfold atassert at e
  split at e
  · cases e
  · cases e
  · rename_i d hni hu
    split at e
    · cases e
    · rename_i z hz
      obtain ⟨z1, z2, _⟩ := azero_sound (w := w) (ρ := ρ) hz
      split at e
      · rw [hx.flat_eq rfl]
        simp only [Option.some.injEq] at e; subst e
        refine ⟨_, ?_, .tuple (.cons z2 (.cons (.flat rfl) .nil))⟩
        unfold Instr.typeAssert
        simp only [Sem.run_bind, run_underlying hu, Result.andThen_ok]
        cases d <;> first | (exact absurd hu (by simpa using hni _)) | simp [z1]
      · rename_i t' v
        obtain ⟨v', rfl, hv⟩ := hx.inv_iface
        cases hb : Nat.beq t' t with
        | true =>
          rw [hb] at e; simp only [cond_true, Option.some.injEq] at e; subst e
          have ht := beq_tt.1 hb
          refine ⟨_, ?_, .tuple (.cons hv (.cons (.flat rfl) .nil))⟩
          unfold Instr.typeAssert
          simp only [Sem.run_bind, run_underlying hu, Result.andThen_ok]
          cases d <;> first | (exact absurd hu (by simpa using hni _)) | simp [ht]
        | false =>
          rw [hb] at e; simp only [cond_false, Option.some.injEq] at e; subst e
          have ht := beq_ff.1 hb
          refine ⟨_, ?_, .tuple (.cons z2 (.cons (.flat rfl) .nil))⟩
          unfold Instr.typeAssert
          simp only [Sem.run_bind, run_underlying hu, Result.andThen_ok]
          cases d <;> first | (exact absurd hu (by simpa using hni _)) | simp [ht, z1]
      · cases e
theorem aop_sound (ok : Okay P X.G ext) (r : Rel X ρ h w) (hB : RoomN X w nx) (hf : EvR ρ f a.eval) (e : aop P ext f o h = some nx) : OpPost P X ρ h w a o nx := by
  unfold aop at e
  split at e <;> rename_i ho
  · obtain ⟨u, e1, rfl⟩ := aval_some e; refine post_val r ?_ (hf _ u e1); simp only [execOp, ho]
  · obtain ⟨u, e1, rfl⟩ := aval_some e; refine post_val r ?_ (hf _ u e1); simp only [execOp, ho]
  · rename_i c x y
    split at e
    · rename_i t hc
      have hc' := (hf c _ hc).flat_eq rfl
      obtain ⟨u, e1, rfl⟩ := aval_some e
      have hvr : VR ρ u (if t then a.eval x else a.eval y) := by
        cases t with
        | true => exact hf x u e1
        | false => exact hf y u e1
      refine ⟨_, w, ρ, fun K Q hK => ?_, hvr, r, .refl _ _ _⟩
      unfold Oper.wp
      simp only [execOp, ho, hc', asBool, Sem.run_bind, Sem.run_pure, Result.andThen_ok]
      exact hK
    · cases e
  · obtain ⟨u, h1, e1, rfl⟩ := avh_some e; refine post_gives ?_ (aalloc_sound r hB e1); simp only [execOp, ho]
  · rename_i elem x
    cases hx : f x with
    | none => simp [hx] at e
    | some v => simp only [hx] at e; obtain ⟨u, h1, e1, rfl⟩ := avh_some e; refine post_gives ?_ (abox_sound (elem := elem) r hB e1 (hf _ _ hx)); simp only [execOp, ho]
  · rename_i t parts
    cases hx : evps f parts.toList with
    | none => simp [hx] at e
    | some ps =>
      simp only [hx] at e; obtain ⟨u, e1, rfl⟩ := aval_some e
      refine post_pure r ?_ (abuild_sound (parts' := parts.map fun (i, x) => (i, a.eval x)) e1 (by simpa using evps_sound hf hx)); simp only [execOp, ho]
  · rename_i t len parts
    cases hx : evps f parts.toList with
    | none => simp [hx] at e
    | some ps =>
      simp only [hx] at e; obtain ⟨u, h1, e1, rfl⟩ := avh_some e
      refine post_gives ?_ (abuildSlice_sound (parts' := parts.map fun (i, x) => (i, a.eval x)) r hB e1 (by simpa using evps_sound hf hx)); simp only [execOp, ho]
  · rename_i t x
    cases hx : f x with
    | none => simp [hx] at e
    | some v => simp only [hx] at e; obtain ⟨u, e1, rfl⟩ := aval_some e; refine post_pure r ?_ (aload_sound r e1 (hf _ _ hx)); simp only [execOp, ho]
  · split at e
    · rename_i hx hy
      obtain ⟨h1, e1, rfl⟩ := ah_some e
      obtain ⟨w', g1, g2, g3⟩ := astore_sound (P := P) r e1 (hf _ _ hx) (hf _ _ hy)
      refine post_does ?_ ⟨w', ρ, g1, g2, g3⟩; simp only [execOp, ho]
    · cases e
  · rename_i x
    split at e
    · rename_i ad hx
      simp only [Option.some.injEq] at e; subst e
      have hv := hf _ _ hx
      obtain ⟨a', ha'⟩ := hv.inv_ptrSome
      rw [ha'] at hv
      exact post_val r (by simp only [execOp, ho, ha']) hv
    · rename_i g c d hx
      simp only [Option.some.injEq] at e; subst e
      have hv := hf _ _ hx
      obtain ⟨c', d', ha', _⟩ := hv.inv_func
      rw [ha'] at hv
      exact post_val r (by simp only [execOp, ho, ha']) hv
    · rename_i m hx
      simp only [Option.some.injEq] at e; subst e
      have hv := hf _ _ hx
      obtain ⟨m', ha', _⟩ := hv.inv_map
      rw [ha'] at hv
      exact post_val r (by simp only [execOp, ho, ha']) hv
    · cases e
  · rename_i bo bt bx bz byt
    split at e
    · rename_i hx hy
      obtain ⟨u, e1, rfl⟩ := aval_some e
      unfold abinS at e1
      split at e1
      · rename_i r0 hr0
        cases e1
        refine post_flat r ?_ (abin_sound hr0 (hf _ _ hx) (hf _ _ hy)); simp only [execOp, ho]
      · refine post_pure r ?_ (ok.sym.b _ _ _ _ e1 ρ w bt bx bz _ _ r.glob (hf _ _ hx) (hf _ _ hy)); simp only [execOp, ho]
    · cases e
  · rename_i x
    cases hx : f x with
    | none => simp [hx] at e
    | some v => simp only [hx] at e; obtain ⟨u, e1, rfl⟩ := aval_some e; refine post_flat r ?_ (aunop_sound e1 (hf _ _ hx)); simp only [execOp, ho]
  · rename_i x
    cases hx : f x with
    | none => simp [hx] at e
    | some v =>
      simp only [hx] at e
      split at e
      · rename_i u h1 e1
        simp only [Option.some.injEq] at e; subst e
        refine post_gives ?_ (astrBytes_sound r hB e1 (hf _ _ hx)); simp only [execOp, ho]
      split at e
      · rename_i u e1
        simp only [Option.some.injEq] at e; subst e
        refine post_pure r ?_ (aunsafe_sound r e1 (hf _ _ hx)); simp only [execOp, ho]
      · obtain ⟨u, e1, rfl⟩ := aval_some e; refine post_flat r ?_ (aconvert_sound r e1 (hf _ _ hx)); simp only [execOp, ho]
  · rename_i t x
    cases hc : concreteT P t with
    | false => simp [hc] at e
    | true =>
      simp only [hc, cond_true] at e
      cases hx : f x with
      | none => simp [hx] at e
      | some v => simp only [hx, Option.some.injEq] at e; subst e; refine post_pure r ?_ ⟨_, concreteT_eq hc _, .iface (hf _ _ hx)⟩; simp only [execOp, ho]
  · rename_i g first cap
    split at e
    · rename_i l1 l2 h1 h2
      simp only [Option.some.injEq] at e; subst e
      refine post_pure (s := Instr.makeFunc (.func g) (first.map a.eval) (cap.map a.eval)) r (by simp only [execOp, ho]) ⟨_, rfl, .func ?_ ?_⟩
      · simpa using evs_sound hf h1
      · simpa using evs_sound hf h2
    · cases e
  · rename_i t rr
    cases hx : optv f rr with
    | none => simp [hx] at e
    | some v => simp only [hx] at e; obtain ⟨u, h1, e1, rfl⟩ := avh_some e; refine post_gives ?_ (amakeMap_sound r hB e1 (optv_sound hf hx)); simp only [execOp, ho]
  · split at e
    · rename_i hx hy; obtain ⟨u, h1, e1, rfl⟩ := avh_some e; refine post_gives ?_ (amakeSlice_sound r hB e1 (hf _ _ hx) (hf _ _ hy)); simp only [execOp, ho]
    · cases e
  · split at e
    · rename_i hx h1 h2
      obtain ⟨u, e1, rfl⟩ := aval_some e
      obtain ⟨q1, q2⟩ := asl_flat e1
      refine post_pure r ?_ (asl_sound r e1 (hf _ _ hx) (optv_int hf h1 q1) (optv_int hf h2 q2)); simp only [execOp, ho, Option.map_none]
    · cases e
  · rename_i x k
    cases hx : f x with
    | none => simp [hx] at e
    | some v => simp only [hx] at e; obtain ⟨u, e1, rfl⟩ := aval_some e; refine post_pure r ?_ (afieldAt_sound e1 (hf _ _ hx)); simp only [execOp, ho]
  · rename_i x k
    cases hx : f x with
    | none => simp [hx] at e
    | some v => simp only [hx] at e; obtain ⟨u, e1, rfl⟩ := aval_some e; refine post_pure r ?_ (afield_sound e1 (hf _ _ hx)); simp only [execOp, ho]
  · split at e
    · rename_i hx hy; obtain ⟨u, e1, rfl⟩ := aval_some e; refine post_pure r ?_ (aindexAt_sound e1 (hf _ _ hx) (hf _ _ hy)); simp only [execOp, ho]
    · cases e
  · split at e
    · rename_i hx hy; obtain ⟨u, e1, rfl⟩ := aval_some e; refine post_pure r ?_ (aindex_sound e1 (hf _ _ hx) (hf _ _ hy)); simp only [execOp, ho]
    · cases e
  · split at e
    · rename_i hx hy; obtain ⟨u, e1, rfl⟩ := aval_some e; refine post_pure r ?_ (alookup_sound r e1 (hf _ _ hx) (hf _ _ hy)); simp only [execOp, ho]
    · cases e
  · split at e
    · rename_i hx hy hz; obtain ⟨h1, e1, rfl⟩ := ah_some e; refine post_does ?_ (amapUpdate_sound r e1 (hf _ _ hx) (hf _ _ hy) (hf _ _ hz)); simp only [execOp, ho]
    · cases e
  · split at e
    · rename_i hx hy hz; obtain ⟨h1, e1, rfl⟩ := ah_some e; refine post_does ?_ (amapUpdate_sound r e1 (hf _ _ hx) (hf _ _ hy) (hf _ _ hz)); simp only [execOp, ho]
    · cases e
  · rename_i t x
    cases hx : f x with
    | none => simp [hx] at e
    | some v => simp only [hx] at e; obtain ⟨u, h1, e1, rfl⟩ := avh_some e; refine post_gives ?_ (arange_sound r hB e1 (hf _ _ hx)); simp only [execOp, ho]
  · rename_i it s
    cases hx : f it with
    | none => simp [hx] at e
    | some v => simp only [hx] at e; obtain ⟨u, h1, e1, rfl⟩ := avh_some e; refine post_gives ?_ (anext_sound (ty := o.type) r e1 (hf _ _ hx)); simp only [execOp, ho]
  · rename_i x xt t
    cases hx : f x with
    | none => simp [hx] at e
    | some v => simp only [hx] at e; obtain ⟨u, e1, rfl⟩ := aval_some e; refine post_pure r ?_ (atassert_sound (xt := xt) e1 (hf _ _ hx)); simp only [execOp, ho]
  · rename_i t i
    split at e
    · rename_i vs hx
      obtain ⟨u, e1, rfl⟩ := aval_some e
      obtain ⟨vs', hv, hl⟩ := (hf _ _ hx).inv_tuple
      rw [nth_eq] at e1
      obtain ⟨u', g1, g2⟩ := hl.get i u e1
      refine post_pure (s := Instr.extract (a.eval t) i) r ?_ ⟨u', by rw [hv]; simp [Instr.extract, show vs'[i]? = some u' by simpa using g1], g2⟩; simp only [execOp, ho]
    · cases e
  · rename_i b args ats
    cases hx : evs f args.toList with
    | none => simp [hx] at e
    | some l =>
      simp only [hx] at e
      obtain ⟨u, h1, e1, rfl⟩ := avh_some e
      have hrun : ∃ cs, (execOp a.eval o).run P w = (builtin b ats o.type cs (args.map a.eval)).run P w := by
        simp only [execOp, ho, resolve, invoke, Sem.run_bind, Sem.run_pure, Result.andThen_ok]
        exact ⟨_, rfl⟩
      obtain ⟨cs, hcs⟩ := hrun
      obtain ⟨u', w', ρ', g1, g2, g3, g4⟩ := abuiltinS_sound (ty := o.type) (cs := cs) ok.sym r.glob r hB e1 (evs_sound hf hx)
      refine ⟨u', w', ρ', fun K Q hK => ?_, g2, g3, g4⟩
      unfold Oper.wp
      rw [hcs]
      have h2 : (args.toList.map a.eval).toArray = args.map a.eval := by rw [← Array.toList_map, Array.toArray_toList]
      rw [h2] at g1
      rw [g1]; exact hK
  · rename_i x args ats
    split at e
    · rename_i g first cap l hx hl
      obtain ⟨f', c', hv, q1, q2⟩ := (hf _ _ hx).inv_func
      have q3 := evs_sound hf hl
      have hargs : VRL ρ (first.toList ++ l ++ cap.toList) (f' ++ args.map a.eval ++ c').toList := by
        have := (q1.append q3).append q2
        simp only [Array.toList_append, Array.toList_map]
        exact this
      refine acallee_sound ok r hB e hargs ?_
      simp only [execOp, ho, resolve, Deferred.ofValue, hv, invoke, Sem.run_bind, Sem.run_pure, Result.andThen_ok]
    · cases e
  · rename_i x
    split at e
    · rename_i t v hx
      simp only [Option.some.injEq] at e; subst e
      obtain ⟨u, hv, hu⟩ := (hf _ _ hx).inv_iface
      refine ⟨.iface t u, .iface hu, fun K Q hQ => ?_⟩
      unfold Oper.wp
      have : (execOp a.eval o).run P w = .halt (.panic (.iface t u)) w := by simp [execOp, ho, hv, Instr.panic]
      rw [this]; exact hQ
    · cases e
  · rename_i x args ats
    split at e
    · rename_i g first cap l hx hl
      obtain ⟨f', c', hv, q1, q2⟩ := (hf _ _ hx).inv_func
      have q3 := evs_sound hf hl
      split at e
      · rename_i fn hfn
        split at e
        · rename_i c hb
          simp only [Option.some.injEq] at e; subst e
          refine ⟨f' ++ args.map a.eval, c', ?_, ⟨fn, hfn, by simp [hb]⟩, fun K Q hK => ?_⟩
          · have := (q1.append q3).append q2
            simp only [Array.toList_append, Array.toList_map]
            exact this
          · unfold Oper.wp
            have : (execOp a.eval o).run P w = .ok (.defer { target := .fn (.func g) c', args := f' ++ args.map a.eval }) w := by
              simp only [execOp, ho, resolve, Deferred.ofValue, hv, Sem.run_bind, Sem.run_pure, Result.andThen_ok]
            rw [this]; exact hK
        · cases e
      · cases e
    · cases e
  · cases e
end
end Go.VII
