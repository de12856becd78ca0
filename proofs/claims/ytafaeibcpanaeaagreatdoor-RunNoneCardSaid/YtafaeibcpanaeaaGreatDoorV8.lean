/- Maps that turn; append, copy, clear; bytes of a string; a string that is ranged over. -/
import Derived.Test.YtafaeibcpanaeaaGreatDoorV7
namespace Go.VII
noncomputable section
variable {P : Program} {X : Cx} {ρ : Rho} {h : AH} {w : World}
/-! ### Maps -/
def OVR (ρ : Rho) : Option Value → Option Value → Prop
  | none, none => True
  | some a, some b => VR ρ a b
  | _, _ => False
def amakeMap (P : Program) (h : AH) (t : TypeId) (res : Option Value) : Option (Value × AH) :=
  match (match res with
    | none => true
    | some (.int _ _) => (match P.underlying t with | some (.map _ _) => true | _ => false)
    | _ => false) with
  | false => none
  | true => match h.new (.map [] 0) with
    | none => none
    | some (n, h1) => some (.map (some n), h1)
theorem amakeMap_sound {h1 : AH} (r : Rel X ρ h w) (hB : Room X w h1) {t : TypeId} {res res' : Option Value} {u : Value} (e : amakeMap P h t res = some (u, h1))
    (hr : OVR ρ res res') : Gives P X ρ h w (Instr.makeMap t res') u h1 := by
  unfold amakeMap at e
  split at e
  · cases e
  · rename_i hok
    cases hn : h.new (.map [] 0) with
    | none => simp [hn] at e
    | some p =>
      obtain ⟨n, h2⟩ := p
      simp only [hn, Option.some.injEq, Prod.mk.injEq] at e
      obtain ⟨rfl, rfl⟩ := e
      have hal := r.alloc hB hn (.map #[] 0) 0 0 ⟨#[], rfl, rfl, fun i e he => by simp at he⟩
      refine ⟨_, _, _, ?_, .map (bi := ⟨w.heap.size, 0, 0, 0⟩) Rho.upd_same, hal.1, hal.2⟩
      cases res with
      | none =>
        cases res' with
        | none => simp [Instr.makeMap]
        | some b => exact hr.elim
      | some a =>
        cases res' with
        | none => exact hr.elim
        | some b =>
          cases a <;> simp only [Bool.false_eq_true] at hok
          rename_i k m
          rw [VR.flat_eq hr rfl]
          split at hok
          · rename_i hu; simp [Instr.makeMap, run_underlying hu, asInt, asIntOf]
          · cases hok
/-- The heap of a world, one block turned. -/
theorem run_setObj {b : Nat} {o o' : Obj} (hb : w.heap[b]? = some o') (hc : (match o' with | .cells .. => false | _ => true) = true) :
    (setObj b o).run P w = .ok () { w with heap := w.heap.setIfInBounds b o } := by
  cases o' <;> simp_all [setObj, Sem.run]
theorem Rel.setObj (r : Rel X ρ h w) {n : Nat} {o o' : AObj} {ro : Obj} {bi : BI} (hg : h.get n = some o) (ho : o.own = true) (hb : ρ n = some bi) (hor : OR ρ bi o' (some ro)) (how : o'.own = true := by rfl) :
    Rel X ρ (h.put n o') { w with heap := w.heap.setIfInBounds bi.blk ro } ∧ Ext ρ h w ρ (h.put n o') { w with heap := w.heap.setIfInBounds bi.blk ro } := by
  have hlt := r.blk n bi hb
  refine r.write hg ho hb (by simp) (fun k hk => ?_) ?_ rfl rfl rfl how
  · show (w.heap.setIfInBounds bi.blk ro)[k]? = _
    rw [Array.getElem?_setIfInBounds, if_neg (Ne.symm hk)]
  · show OR ρ bi o' (w.heap.setIfInBounds bi.blk ro)[bi.blk]?
    rw [Array.getElem?_setIfInBounds, if_pos rfl, if_pos hlt]; exact hor
theorem run_getMap {b ck : Nat} {res : Array MapEntry} (hb : w.heap[b]? = some (.map res ck)) : (getObj b).run P w = .ok (.map res ck) w := by simp [getObj, Sem.run, hb]
theorem VRL.all_eq {l l' : List Value} (h : VRL ρ l l') (hf : l.all isFlat = true) : l' = l :=
  h.flat_eq fun v hv => List.all_eq_true.1 hf v hv
theorem zOk_eq {z z' : Value} (hz : zOk z = true) (h : VR ρ z z') : z' = z := by
  unfold zOk at hz
  cases hf : isFlat z with
  | true => exact h.flat_eq hf
  | false =>
    simp only [hf, Bool.false_or] at hz
    split at hz
    · obtain ⟨a', rfl, hl⟩ := h.inv_agg
      have := hl.all_eq hz
      rw [Array.toList_inj.1 this]
    · cases hz
def amapUpdate (P : Program) (h : AH) (T : TypeId) (m k v : Value) : Option AH :=
  match P.underlying T with
  | some (.map kt _) => (match m with
    | .map (some n) => (match h.get n with
      | some (.map es ck) => bif akeyOk P kt k && zOk k then
          (match afind P kt k es 0 with
           | none => none
           | some none => some (h.put n (.map (es ++ [{ key := k, val := v, born := ck }]) (ck + 1)))
           | some (some (i, _)) => (match es[i]? with
              | none => none
              | some e => bif zOk e.key && Instr.sameBits 10000 e.key k then some (h.put n (.map (es.set i { e with key := k, val := v }) ck)) else none)) else none
      | _ => none)
    | _ => none)
  | _ => none
theorem ML.append {l l' m m' : List MapEntry} : ML ρ l l' → ML ρ m m' → ML ρ (l ++ m) (l' ++ m')
  | .nil, h => h
  | .cons a b c d, h => .cons a b c (ML.append d h)
theorem ML.setAt {a b : MapEntry} (h1 : VR ρ a.key b.key) (h2 : VR ρ a.val b.val) (h3 : a.born = b.born) : ∀ {l l' : List MapEntry} (i : Nat), ML ρ l l' → ML ρ (l.set i a) (l'.set i b)
  | _, _, _, .nil => by simpa using ML.nil
  | _, _, 0, .cons p q s t => .cons h1 h2 h3 t
  | _, _, i + 1, .cons p q s t => .cons p q s (ML.setAt h1 h2 h3 i t)
theorem OR.ofML {bi : BI} {es : List MapEntry} {res : Array MapEntry} {ck : Nat} (hm : ML ρ es res.toList) : OR ρ bi (.map es ck) (some (.map res ck)) := by
  obtain ⟨h1, h2⟩ := hm.get
  exact ⟨res, rfl, by simpa using h1, fun i e he => by simpa using h2 i e he⟩
theorem amapUpdate_sound (r : Rel X ρ h w) {T : TypeId} {m m' k k' v v' : Value} {h1 : AH} (e : amapUpdate P h T m k v = some h1) (hm : VR ρ m m') (hk : VR ρ k k') (hv : VR ρ v v') :
    Does P X ρ h w (Instr.mapUpdate T m' k' v') h1 := by
  unfold amapUpdate at e
  split at e
  · rename_i kt et hu
    split at e
    · rename_i n
      obtain ⟨bi, hb, rfl⟩ := hm.inv_mapSome
      split at e
      · rename_i es ck hg
        obtain ⟨res, q1, q2⟩ := r.mapAt hg hb
        cases hko : (akeyOk P kt k && zOk k) with
        | false => simp only [hko, cond_false] at e; cases e
        | true =>
          simp only [hko, cond_true] at e
          simp only [Bool.and_eq_true] at hko
          obtain ⟨hko, hkz⟩ := hko
          have hck := akeyOk_sound (w := w) hko hk false
          cases hkd : P.underlying kt with
          | none => simp [akeyOk, hkd] at hko
          | some D =>
            have hgo := run_getMap (P := P) q1
            have hk' := zOk_eq hkz hk
            subst hk'
            cases hf : afind P kt k' es 0 with
            | none => simp [hf] at e
            | some q =>
              obtain ⟨q', f1, f2⟩ := run_findKey (w := w) hkd hk q2 hf
              cases q with
              | none =>
                simp only [hf, Option.some.injEq] at e; subst e
                cases q' with
                | some p => exact f2.elim
                | none =>
                  have hs := r.setObj (o' := .map (es ++ [{ key := k', val := v, born := ck }]) (ck + 1)) (ro := .map (res.push { key := k', val := v', born := ck }) (ck + 1)) hg rfl hb
                    (OR.ofML (by
                      have := ML.append q2 (ML.cons (a := { key := k', val := v, born := ck }) (b := { key := k', val := v', born := ck }) hk hv rfl .nil)
                      simpa using this))
                  refine ⟨_, ρ, ?_, hs.1, hs.2⟩
                  unfold Instr.mapUpdate
                  simp only [Sem.run_bind, run_underlying hu, Result.andThen_ok, hgo, hck, f1]
                  exact run_setObj q1 rfl
              | some p =>
                obtain ⟨i, u⟩ := p
                cases q' with
                | none => exact f2.elim
                | some p' =>
                  obtain ⟨j, u'⟩ := p'
                  obtain ⟨rfl, _, hlt⟩ := f2
                  simp only [hf] at e
                  cases hei : es[i]? with
                  | none => simp [hei] at e
                  | some en =>
                    simp only [hei] at e
                    cases hq : (zOk en.key && Instr.sameBits 10000 en.key k') with
                    | false => simp only [hq, cond_false] at e; cases e
                    | true =>
                      simp only [hq, cond_true, Option.some.injEq] at e; subst e
                      simp only [Bool.and_eq_true] at hq
                      obtain ⟨en', g1, g2, g3, g4⟩ := q2.get.2 i en hei
                      have hkk := zOk_eq hq.1 g2
                      have hres : res[i]? = some en' := by simpa using g1
                      have hml := ML.setAt (a := { en with key := k', val := v }) (b := { en' with key := k', val := v' }) hk hv g4 i q2
                      have hmod : (res.modify i fun e => { e with key := k', val := v' }).toList = res.toList.set i { en' with key := k', val := v' } := by
                        apply List.ext_getElem?
                        intro j
                        simp only [Array.getElem?_toList, Array.getElem?_modify, List.getElem?_set]
                        by_cases hj : i = j
                        · subst hj
                          have hsz : i < res.size := (Array.getElem?_eq_some_iff.1 hres).1
                          have hri : res[i] = en' := by rw [Array.getElem?_eq_getElem hsz] at hres; simpa using hres
                          simp [hsz, hri]
                        · simp [hj]
                      have hs := r.setObj (o' := .map (es.set i { en with key := k', val := v }) ck) (ro := .map (res.modify i fun e => { e with key := k', val := v' }) ck) hg rfl hb (OR.ofML (by rw [hmod]; exact hml))
                      refine ⟨_, ρ, ?_, hs.1, hs.2⟩
                      unfold Instr.mapUpdate
                      simp only [Sem.run_bind, run_underlying hu, Result.andThen_ok, hgo, hck, f1]
                      have hks : (Instr.keyThatStays (((res[i]?).map (·.key)).getD k') k').run P w = .ok k' w := by
                        simp [Instr.keyThatStays, hres, hkk, hq.2]
                      rw [hks]
                      exact run_setObj q1 rfl
      · cases e
    · cases e
  · cases e
def adelete (P : Program) (h : AH) (T : TypeId) (m k : Value) : Option AH :=
  match P.underlying T with
  | some (.map kt _) => (match m with
    | .map none => bif akeyOk P kt k then some h else none
    | .map (some n) => (match h.get n with
      | some (.map es ck) => bif akeyOk P kt k then
          (match afind P kt k es 0 with
           | none => none
           | some none => some h
           | some (some (i, _)) => some (h.put n (.map (es.eraseIdx i) ck))) else none
      | _ => none)
    | _ => none)
  | _ => none
theorem ML.erase : ∀ {l l' : List MapEntry} (i : Nat), ML ρ l l' → ML ρ (l.eraseIdx i) (l'.eraseIdx i)
  | _, _, _, .nil => by simpa using ML.nil
  | _, _, 0, .cons _ _ _ t => t
  | _, _, i + 1, .cons p q s t => .cons p q s (ML.erase i t)
theorem adelete_sound (r : Rel X ρ h w) {T ty : TypeId} {m m' k k' : Value} {h1 : AH} {ats : Array TypeId} (hat : ats[0]? = some T) (e : adelete P h T m k = some h1) (hm : VR ρ m m') (hk : VR ρ k k') :
    Gives P X ρ h w (Builtin.delete_ ats ty #[m', k']) (.tuple #[]) h1 := by
  unfold adelete at e
  split at e
  · rename_i kt et hu
    split at e
    · rw [hm.flat_eq rfl]
      cases hko : akeyOk P kt k with
      | false => simp [hko] at e
      | true =>
        simp only [hko, cond_true, Option.some.injEq] at e; subst e
        have hck := akeyOk_sound (w := w) hko hk true
        exact ⟨.tuple #[], w, ρ, by simp [Builtin.delete_, hat, run_underlying hu, hck], .tuple .nil, r, .refl _ _ _⟩
    · rename_i n
      obtain ⟨bi, hb, rfl⟩ := hm.inv_mapSome
      split at e
      · rename_i es ck hg
        obtain ⟨res, q1, q2⟩ := r.mapAt hg hb
        cases hko : akeyOk P kt k with
        | false => simp [hko] at e
        | true =>
          simp only [hko, cond_true] at e
          have hck := akeyOk_sound (w := w) hko hk res.isEmpty
          cases hkd : P.underlying kt with
          | none => simp [akeyOk, hkd] at hko
          | some D =>
            have hgo := run_getMap (P := P) q1
            cases hf : afind P kt k es 0 with
            | none => simp [hf] at e
            | some q =>
              obtain ⟨q', f1, f2⟩ := run_findKey (w := w) hkd hk q2 hf
              have hse : ∀ (o : Obj), (setObj bi.blk o).run P w = .ok () { w with heap := w.heap.setIfInBounds bi.blk o } := fun o => run_setObj q1 rfl
              cases q with
              | none =>
                simp only [hf, Option.some.injEq] at e; subst e
                cases q' with
                | some p => exact f2.elim
                | none =>
                  have hsame : ({ w with heap := w.heap.setIfInBounds bi.blk (.map res ck) } : World) = w := by
                    have : w.heap.setIfInBounds bi.blk (.map res ck) = w.heap := by
                      apply Array.ext_getElem?
                      intro j
                      rw [Array.getElem?_setIfInBounds]
                      split
                      · rename_i hj; subst hj; rw [if_pos (r.blk n bi hb), q1]
                      · rfl
                    rw [this]
                  refine ⟨.tuple #[], w, ρ, ?_, .tuple .nil, r, .refl _ _ _⟩
                  simp [Builtin.delete_, hat, run_underlying hu, hgo, hck, f1, hse, hsame]
              | some p =>
                obtain ⟨i, u⟩ := p
                cases q' with
                | none => exact f2.elim
                | some p' =>
                  obtain ⟨j, u'⟩ := p'
                  obtain ⟨rfl, _, hlt⟩ := f2
                  simp only [hf, Option.some.injEq] at e; subst e
                  have hlen := q2.get.1
                  have herase : (res.eraseIdxIfInBounds i).toList = res.toList.eraseIdx i := by
                    have hi : i < res.size := by simp at hlen; omega
                    simp [Array.eraseIdxIfInBounds, hi]
                  have hs := r.setObj (o' := .map (es.eraseIdx i) ck) (ro := .map (res.eraseIdxIfInBounds i) ck) hg rfl hb (OR.ofML (by rw [herase]; exact ML.erase i q2))
                  refine ⟨.tuple #[], _, ρ, ?_, .tuple .nil, hs.1, hs.2⟩
                  simp [Builtin.delete_, hat, run_underlying hu, hgo, hck, f1, hse]
      · cases e
    · cases e
  · cases e
end
end Go.VII
