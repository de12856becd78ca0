/- Maps: lookup, store, delete, length, over the heap of names and in the model. -/
import Derived.Test.YtafaeibcpanaeaaGreatDoorV5
namespace Go.VII
noncomputable section
variable {P : Program} {X : Cx} {ρ : Rho} {h : AH} {w : World}
/-- Entries that stand for each other, in order. -/
inductive ML (ρ : Rho) : List MapEntry → List MapEntry → Prop
  | nil : ML ρ [] []
  | cons {a b : MapEntry} {l m : List MapEntry} : VR ρ a.key b.key → VR ρ a.val b.val → a.born = b.born → ML ρ l m → ML ρ (a :: l) (b :: m)
theorem ML.ofGet {ρ : Rho} : ∀ {l m : List MapEntry}, m.length = l.length → (∀ (i : Nat) (e : MapEntry), l[i]? = some e → ∃ e' : MapEntry, m[i]? = some e' ∧ VR ρ e.key e'.key ∧ VR ρ e.val e'.val ∧ e.born = e'.born) → ML ρ l m
  | [], [], _, _ => .nil
  | a :: l, [], h, _ => by simp at h
  | [], a :: l, h, _ => by simp at h
  | a :: l, b :: m, h, g => by
    obtain ⟨e', h1, h2, h3, h4⟩ := g 0 a (by simp)
    simp only [List.getElem?_cons_zero, Option.some.injEq] at h1; subst h1
    exact .cons h2 h3 h4 (ML.ofGet (by simpa using h) fun i e he => by simpa using g (i + 1) e (by simpa using he))
theorem ML.get {ρ : Rho} : ∀ {l m : List MapEntry}, ML ρ l m → m.length = l.length ∧ ∀ (i : Nat) (e : MapEntry), l[i]? = some e → ∃ e' : MapEntry, m[i]? = some e' ∧ VR ρ e.key e'.key ∧ VR ρ e.val e'.val ∧ e.born = e'.born
  | _, _, .nil => ⟨rfl, fun i e he => by simp at he⟩
  | _, _, .cons a b c d => by
    obtain ⟨h1, h2⟩ := ML.get d
    refine ⟨by simp [h1], fun i e he => ?_⟩
    cases i with
    | zero => simp only [List.getElem?_cons_zero, Option.some.injEq] at he; subst he; exact ⟨_, by simp, a, b, c⟩
    | succ i => simpa using h2 i e (by simpa using he)
theorem Rel.mapAt (r : Rel X ρ h w) {n : Nat} {es : List MapEntry} {ck : Nat} (hg : h.get n = some (.map es ck)) {bi : BI} (hb : ρ n = some bi) :
    ∃ res : Array MapEntry, w.heap[bi.blk]? = some (.map res ck) ∧ ML ρ es res.toList := by
  obtain ⟨bj, h1, h2⟩ := r.objs n _ hg
  rw [hb] at h1; cases h1
  obtain ⟨res, q1, q2, q3⟩ := h2
  exact ⟨res, q1, ML.ofGet (by simpa using q2) fun i e he => by simpa using q3 i e he⟩
def afind (P : Program) (kt : TypeId) (k : Value) : List MapEntry → Nat → Option (Option (Nat × Value))
  | [], _ => some none
  | e :: es, i => match aeq P 10000 kt k e.key with
    | none => none
    | some r => bif r then some (some (i, e.val)) else afind P kt k es (i + 1)
theorem sameNow_sound {kt : TypeId} {D : TypeDesc} (hu : P.underlying kt = some D) {x y : Value} {r b : Bool} (e : Instr.sameNow D x y = some b) (q : (Op.equalIn 10000 kt x y).run P w = .ok r w) : b = r := by
  have q' : (Op.equalIn (9999 + 1) kt x y).run P w = .ok r w := q
  clear q
  unfold Instr.sameNow at e
  split at e
  · split at e
    · rename_i hk; simp only [Option.some.injEq] at e; subst e; subst hk
      rw [run_equalIn_int (w := w) 9999 kt _ _ _ _ hu] at q'
      simpa using q'
    · cases e
  · simp only [Option.some.injEq] at e; subst e
    rw [run_equalIn_string (w := w) 9999 kt _ _ hu, ← beq_toListBytes] at q'
    simpa using q'
  · simp only [Option.some.injEq] at e; subst e
    rw [run_equalIn_bool (w := w) 9999 kt _ _ hu] at q'
    simpa using q'
  · cases e
theorem andThen_assoc {α β γ : Type} (x : Result α) (f : α → World → Result β) (g : β → World → Result γ) : (x.andThen f).andThen g = x.andThen fun a w => (f a w).andThen g := by
  cases x <;> rfl
theorem afind_sound {kt : TypeId} {D : TypeDesc} (hu : P.underlying kt = some D) {k k' : Value} (hk : VR ρ k k') : ∀ {es res : List MapEntry} (i : Nat) {r : Option (Nat × Value)}, ML ρ es res → afind P kt k es i = some r →
    ∃ r', (Instr.findAsking kt k' res i).run P w = .ok r' w ∧ (∀ q, Instr.findNow D k' res i = some q → q = r') ∧
      (match r, r' with | none, none => True | some (j, v), some (j', v') => j = j' ∧ VR ρ v v' ∧ i ≤ j ∧ j < i + es.length | _, _ => False)
  | [], [], i, r, .nil, e => by
    simp only [afind, Option.some.injEq] at e; subst e
    exact ⟨none, by simp [Instr.findAsking], fun q hq => by simp only [Instr.findNow, Option.some.injEq] at hq; exact hq.symm, trivial⟩
  | a :: es, b :: res, i, r, .cons h1 h2 h3 h4, e => by
    simp only [afind] at e
    cases hq : aeq P 10000 kt k a.key with
    | none => simp [hq] at e
    | some t =>
      simp only [hq] at e
      have hs := aeq_sound (w := w) _ _ _ _ _ _ _ hq hk h1
      cases t with
      | true =>
        simp only [cond_true, Option.some.injEq] at e; subst e
        refine ⟨some (i, b.val), by simp [Instr.findAsking, Op.equal, Op.maxDepth, hs], fun q hq' => ?_, rfl, h2, Nat.le_refl _, by simp⟩
        simp only [Instr.findNow] at hq'
        cases hn : Instr.sameNow D k' b.key with
        | none => simp [hn] at hq'
        | some c =>
          have := sameNow_sound hu hn hs; subst this
          simp only [hn, Option.some.injEq] at hq'; exact hq'.symm
      | false =>
        simp only [cond_false] at e
        obtain ⟨r', g1, g2, g3⟩ := afind_sound hu hk (i + 1) h4 e
        refine ⟨r', by simp [Instr.findAsking, Op.equal, Op.maxDepth, hs, g1], fun q hq' => ?_, ?_⟩
        · simp only [Instr.findNow] at hq'
          cases hn : Instr.sameNow D k' b.key with
          | none => simp [hn] at hq'
          | some c =>
            have := sameNow_sound hu hn hs; subst this
            simp only [hn] at hq'; exact g2 q hq'
        · cases r <;> cases r' <;> simp_all
          omega
theorem run_findKey {kt : TypeId} {D : TypeDesc} (hu : P.underlying kt = some D) {k k' : Value} (hk : VR ρ k k') {es res : List MapEntry} {r : Option (Nat × Value)} (hm : ML ρ es res) (e : afind P kt k es 0 = some r) :
    ∃ r', (Instr.findKey kt k' res).run P w = .ok r' w ∧ (match r, r' with | none, none => True | some (j, v), some (j', v') => j = j' ∧ VR ρ v v' ∧ j < es.length | _, _ => False) := by
  obtain ⟨r', g1, g2, g3⟩ := afind_sound (w := w) hu hk 0 hm e
  refine ⟨r', ?_, ?_⟩
  rotate_left
  · cases r with
    | none => cases r' with
      | none => trivial
      | some q => exact g3
    | some p => cases r' with
      | none => exact g3
      | some q => exact ⟨g3.1, g3.2.1, by have := g3.2.2.2; omega⟩
  unfold Instr.findKey
  simp only [Sem.run_bind, run_underlying hu, Result.andThen_ok]
  cases hf : Instr.findNow D k' res 0 with
  | none => exact g1
  | some q => rw [g2 q hf]; rfl
/-- Kinds of keys that a lookup takes without a look inside. -/
def plainKey : TypeDesc → Bool
  | .interface _ | .array _ _ | .struct _ => false
  | _ => true
def fieldsPlain (P : Program) (cs : Array Value) : List Field → Bool
  | [] => true
  | f :: fs => (match P.underlying f.type with | some d => plainKey d | none => false) && (match apart P f.type cs f.offset with | some _ => true | none => false) && fieldsPlain P cs fs
def akeyOk (P : Program) (kt : TypeId) (k : Value) : Bool :=
  match P.underlying kt with
  | none => false
  | some d => plainKey d || (match d, k with
    | .struct fs, .agg cs => fieldsPlain P cs fs.toList
    | _, _ => false)
theorem run_checkKey_plain {t : TypeId} {d : TypeDesc} (hu : P.underlying t = some d) (hp : plainKey d = true) (em : Bool) (n : Nat) (v : Value) : (Instr.checkKey em (n + 1) t v).run P w = .ok () w := by
  unfold Instr.checkKey
  simp only [Sem.run_bind, run_underlying hu, Result.andThen_ok]
  cases d <;> simp_all [plainKey]
theorem run_checkFields {em : Bool} {n : Nat} {cs cs' : Array Value} (hc : VRL ρ cs.toList cs'.toList) (g : Field → PUnit → Sem (ForInStep PUnit))
    (hg : ∀ f, ((if f.name ≠ "_" then do Instr.checkKey em (n + 1) f.type (← part f.type cs' f.offset) else pure ()) : Sem Unit).run P w = .ok () w → (g f ()).run P w = .ok (.yield ()) w) :
    ∀ (fs : List Field), fieldsPlain P cs fs = true → (forIn fs PUnit.unit g).run P w = .ok () w
  | [], _ => by simp
  | f :: fs, e => by
    simp only [fieldsPlain, Bool.and_eq_true] at e
    obtain ⟨⟨e1, e2⟩, e3⟩ := e
    have h1 : ((if f.name ≠ "_" then do Instr.checkKey em (n + 1) f.type (← part f.type cs' f.offset) else pure ()) : Sem Unit).run P w = .ok () w := by
      split
      · cases ha : apart P f.type cs f.offset with
        | none => simp [ha] at e2
        | some v =>
          obtain ⟨v', a1, a2⟩ := apart_sound (w := w) ha hc
          cases hu : P.underlying f.type with
          | none => simp [hu] at e1
          | some d =>
            simp only [hu] at e1
            simp only [Sem.run_bind, a1, Result.andThen_ok, run_checkKey_plain hu e1]
      · rfl
    have h2 := hg f h1
    have h3 := run_checkFields hc g hg fs e3
    simp only [List.forIn_cons, Sem.run_bind]
    rw [h2]
    exact h3
theorem akeyOk_sound {kt : TypeId} {k k' : Value} (e : akeyOk P kt k = true) (hk : VR ρ k k') (em : Bool) : (Instr.checkKey em 10000 kt k').run P w = .ok () w := by
  unfold akeyOk at e
  cases hu : P.underlying kt with
  | none => simp [hu] at e
  | some d =>
    simp only [hu, Bool.or_eq_true] at e
    rcases e with e | e
    · exact run_checkKey_plain hu e em 9999 k'
    · split at e
      · rename_i fs cs
        obtain ⟨cs', rfl, hc⟩ := hk.inv_agg
        show (Instr.checkKey em (9999 + 1) kt (.agg cs')).run P w = _
        unfold Instr.checkKey
        simp only [Sem.run_bind, run_underlying hu, Result.andThen_ok]
        rw [← Array.forIn_toList]
        refine Eq.trans (congrArg (fun x => Result.andThen x _) (run_checkFields (em := em) (n := 9998) hc _ ?_ fs.toList e)) rfl
        intro f hf
        by_cases hn : f.name = "_"
        · simp [hn]
        · rw [if_pos hn] at hf
          simp only [ne_eq, hn, not_false_eq_true, if_true]
          simp only [Sem.run_bind] at hf ⊢
          rw [← andThen_assoc, hf]; rfl
      · cases e
def alookup (P : Program) (h : AH) (T : TypeId) (m k : Value) (ok : Bool) : Option Value :=
  match P.underlying T with
  | some (.map kt et) =>
    (match (match m with
      | .map none => some []
      | .map (some n) => (match h.get n with | some (.map es _) => some es | _ => none)
      | _ => none) with
     | none => none
     | some es => bif akeyOk P kt k then
        (match afind P kt k es 0 with
         | none => none
         | some (some (_, v)) => some (bif ok then .tuple #[v, .bool true] else v)
         | some none => (match azero P et with
            | none => none
            | some z => some (bif ok then .tuple #[z, .bool false] else z))) else none)
  | _ => none
def afterFind (et : TypeId) (ok : Bool) (q : Option (Nat × Value)) : Sem Value := do
  let (v, b) ← match q with
    | some (_, v) => pure (v, true)
    | none => do pure (← zeroValue et, false)
  pure (if ok then .tuple #[v, .bool b] else v)
theorem run_lookup_of {T kt et : TypeId} {m' k' : Value} {ok : Bool} {res : Array MapEntry} {q : Option (Nat × Value)} (hu : P.underlying T = some (.map kt et))
    (hrun : m' = .map none ∧ res = #[] ∨ ∃ b ck, m' = .map (some b) ∧ w.heap[b]? = some (.map res ck)) (hck : (Instr.checkKey res.isEmpty 10000 kt k').run P w = .ok () w)
    (f1 : (Instr.findKey kt k' res.toList).run P w = .ok q w) : (Instr.lookup T m' k' ok).run P w = (afterFind et ok q).run P w := by
  rcases hrun with ⟨rfl, rfl⟩ | ⟨b, ck, rfl, hh⟩
  · unfold Instr.lookup afterFind
    simp only [Sem.run_bind, run_underlying hu, Result.andThen_ok, Sem.run_pure, hck, f1]
    cases q <;> rfl
  · have hgo : (getObj b).run P w = .ok (.map res ck) w := by simp [getObj, Sem.run, hh]
    unfold Instr.lookup afterFind
    simp only [Sem.run_bind, run_underlying hu, Result.andThen_ok, hgo, Sem.run_pure, hck, f1]
    cases q <;> rfl
theorem alookup_sound (r : Rel X ρ h w) {T : TypeId} {m m' k k' u : Value} {ok : Bool} (e : alookup P h T m k ok = some u) (hm : VR ρ m m') (hk : VR ρ k k') :
    ∃ u', (Instr.lookup T m' k' ok).run P w = .ok u' w ∧ VR ρ u u' := by
  unfold alookup at e
  split at e
  · rename_i kt et hu
    split at e
    · cases e
    · rename_i es hes
      have hreal : ∃ res : Array MapEntry, ML ρ es res.toList ∧ (m' = .map none ∧ res = #[] ∨ ∃ b ck, m' = .map (some b) ∧ w.heap[b]? = some (.map res ck)) := by
        split at hes
        · simp only [Option.some.injEq] at hes; subst hes
          exact ⟨#[], .nil, .inl ⟨hm.flat_eq rfl, rfl⟩⟩
        · rename_i n
          obtain ⟨bi, hb, rfl⟩ := hm.inv_mapSome
          split at hes
          · rename_i ck hg
            simp only [Option.some.injEq] at hes; subst hes
            obtain ⟨res, g1, g2⟩ := r.mapAt hg hb
            exact ⟨res, g2, .inr ⟨_, _, rfl, g1⟩⟩
          · cases hes
        · cases hes
      obtain ⟨res, hml, hrun⟩ := hreal
      cases hko : akeyOk P kt k with
      | false => simp [hko] at e
      | true =>
        simp only [hko, cond_true] at e
        have hck := akeyOk_sound (w := w) hko hk res.isEmpty
        cases hkd : P.underlying kt with
        | none => simp [akeyOk, hkd] at hko
        | some D =>
          cases hf : afind P kt k es 0 with
          | none => simp [hf] at e
          | some q =>
            obtain ⟨q', f1, f2⟩ := run_findKey (w := w) hkd hk hml hf
            have base := run_lookup_of (ok := ok) hu hrun hck f1
            rw [base]
            cases q with
            | some p =>
              obtain ⟨j, v⟩ := p
              cases q' with
              | none => exact f2.elim
              | some p' =>
                obtain ⟨j', v'⟩ := p'
                simp only [hf, Option.some.injEq] at e; subst e
                refine ⟨if ok then .tuple #[v', .bool true] else v', rfl, ?_⟩
                cases ok with
                | true => exact .tuple (.cons f2.2.1 (.cons (.flat rfl) .nil))
                | false => exact f2.2.1
            | none =>
              cases q' with
              | some p' => exact f2.elim
              | none =>
                simp only [hf] at e
                cases hz : azero P et with
                | none => simp [hz] at e
                | some z =>
                  simp only [hz, Option.some.injEq] at e; subst e
                  obtain ⟨z1, z2, _⟩ := azero_sound (w := w) (ρ := ρ) hz
                  refine ⟨if ok then .tuple #[z, .bool false] else z, by simp [afterFind, z1], ?_⟩
                  cases ok with
                  | true => exact .tuple (.cons z2 (.cons (.flat rfl) .nil))
                  | false => exact z2
  · cases e
end
end Go.VII
