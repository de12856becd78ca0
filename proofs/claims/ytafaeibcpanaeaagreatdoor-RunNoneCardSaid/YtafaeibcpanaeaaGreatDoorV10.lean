/- append over the heap of names: the old row goes over to a new name. -/
import Derived.Test.YtafaeibcpanaeaaGreatDoorV9
namespace Go.VII
noncomputable section
variable {P : Program} {X : Cx} {ρ : Rho} {h : AH} {w : World}
/-- The second argument's type is no integer ('append(x, make(..)...)' is another thing). -/
def notInt (P : Program) : Option TypeId → Bool
  | none => true
  | some t => match P.underlying t with
    | some (.int _) => false
    | some _ => true
    | none => false
def aappend (P : Program) (h : AH) (ats : Array TypeId) (s x : Value) : Option (Value × AH) :=
  match ats[0]? with
  | none => none
  | some T => match P.underlying T with
    | some (.slice elem) => (match P.info? elem with
      | none => none
      | some ie => match azero P elem with
        | none => none
        | some z => match alenOf x with
          | none => none
          | some n => match acellsOf h ie.size n x with
            | none => none
            | some l => bif notInt P ats[1]? then
              (match s with
               | .slice base sLen sCap =>
                 bif Nat.beq n 0 then some (.slice base sLen sCap, h) else
                 bif Nat.ble ((sLen + n) * ie.bytes) 140737488355328 && Nat.blt (sLen + n) 4611686018427387904 && Nat.beq z.cells.size ie.size then
                   (match base with
                    | none => bif Nat.beq sLen 0 && Nat.beq sCap 0 && Nat.beq l.length (n * ie.size) then
                        (match anew h ie.size l with
                         | none => none
                         | some (m, h1) => some (.slice (some ⟨m, 0, none⟩) n n, h1)) else none
                    | some ⟨nm, o, none⟩ => (match h.get nm with
                      | some (.cells esz true c) =>
                        bif Nat.beq esz ie.size && Nat.blt 0 ie.size && Nat.ble (o + sLen * ie.size) c.size && Nat.beq l.length (n * ie.size) && l.all cellOk then
                          (match ({ size := (sLen + n) * ie.size, off := c.off + o, pat := c.pat, ov := c.ov } : Cells).sets (sLen * ie.size) l with
                           | none => none
                           | some c2 => match (h.kill nm).new (.cells esz true c2) with
                             | none => none
                             | some (m, h1) => some (.slice (some ⟨m, 0, none⟩) (sLen + n) (sLen + n), h1)) else none
                      | _ => none)
                    | _ => none) else none
               | _ => none) else none)
    | _ => none
theorem acellsOf_zero {size : Nat} {x : Value} {l : List Value} (e : acellsOf h size 0 x = some l) : l = [] := by
  unfold acellsOf at e
  split at e
  · cases hz : Nat.beq 0 0 with
    | false => simp only [hz, cond_false] at e; cases e
    | true => simp only [hz, cond_true, Option.some.injEq] at e; exact e.symm
  · have hz : Nat.beq (0 * size) 0 = true := beq_tt.2 (by simp)
    simp only [hz, cond_true, Option.some.injEq] at e; exact e.symm
  · rename_i s
    cases hz : Nat.ble 0 s.size with
    | false => simp [hz] at e
    | true => simp only [hz, cond_true, Option.some.injEq, List.take_zero] at e; exact e.symm
  · cases e
theorem run_append_any {T ty elem : TypeId} {ie : TypeInfo} {z : Value} {ats : Array TypeId} {base : Option Addr} {sLen sCap n : Nat} {x' : Value} {old new : Array Value} (hat : ats[0]? = some T) (hu : P.underlying T = some (.slice elem))
    (hi : P.info? elem = some ie) (hz : ie.zero = some z) (hni : notInt P ats[1]? = true) (hlen : ∀ w, (Builtin.lenOf x').run P w = .ok n w)
    (hnew : ∀ w', w'.heap = w.heap → (Builtin.firstCells ie.size n x').run P w' = .ok new w') (hg : sCap < sLen + n) (hold : (Builtin.firstCells ie.size sLen (.slice base sLen sCap)).run P w.drew = .ok old w.drew)
    (h63 : sLen + n < 4611686018427387904) (hfit : (sLen + n) * ie.bytes ≤ 140737488355328) :
    (Builtin.append_ ats ty #[.slice base sLen sCap, x']).run P w = .ok (.slice (some ⟨w.heap.size, 0, none⟩) (sLen + n) (grownCap w (sLen + n) sCap elem))
      (w.drew.alloc (.cells (old ++ new ++ Builtin.zeroCells z.cells (grownCap w (sLen + n) sCap elem - (sLen + n))) elem)) := by
  have h1 : ¬ (sLen + n ≤ sCap) := by omega
  have h63' : ¬ (((sLen + n : Nat) : Int) > IntKind.i64.max) := by rw [IntKind.max_i64]; omega
  have hgs := growslice_fits hg hfit
  have h48' : ¬ (Builtin.nextslicecap (sLen + n) sCap * ie.bytes > 2 ^ 48) := by omega
  have hdr := hnew w.drew rfl
  have hch : (choose (.appendCap (sLen + n) sCap elem)).run P w = .ok (grownCap w (sLen + n) sCap elem) w.drew := by
    rw [run_choose]; rfl
  unfold Builtin.append_
  simp only [hat, List.getElem?_toArray, List.getElem?_cons_zero, List.getElem?_cons_succ, Sem.run_bind, run_underlying hu, Result.andThen_ok, run_sizeOf hi]
  cases ho : ats[1]? with
  | none =>
    simp only [Sem.run_bind, Sem.run_pure, Result.andThen_ok, Bool.false_eq_true, if_false, hlen, h1, typeInfo, run_program, hi]
    rw [if_neg (fun hh => h63' hh.1)]
    simp only [h48', if_false, Sem.run_bind, hch, Result.andThen_ok, run_askRoom, hold, hdr, zeroValue, typeInfo, run_program, hi, hz, Sem.run_pure, newRow, run_newObj, Bool.not_false, if_true]
    rfl
  | some t =>
    rw [ho] at hni
    simp only [notInt] at hni
    cases hut : P.underlying t with
    | none => simp [hut] at hni
    | some d =>
      simp only [hut] at hni
      simp only [Sem.run_bind, run_underlying hut, Result.andThen_ok]
      cases d <;> first
        | (simp at hni; done)
        | (simp only [Sem.run_bind, Sem.run_pure, Result.andThen_ok, Bool.false_eq_true, if_false, hlen, h1, typeInfo, run_program, hi]
           rw [if_neg (fun hh => h63' hh.1)]
           simp only [h48', if_false, Sem.run_bind, hch, Result.andThen_ok, run_askRoom, hold, hdr, zeroValue, typeInfo, run_program, hi, hz, Sem.run_pure, newRow, run_newObj, Bool.not_false, if_true]
           rfl)
theorem run_append_fit {T ty elem : TypeId} {ie : TypeInfo} {ats : Array TypeId} {base : Option Addr} {sLen sCap n : Nat} {x' : Value} {new : Array Value} {w' : World} (hat : ats[0]? = some T) (hu : P.underlying T = some (.slice elem))
    (hi : P.info? elem = some ie) (hni : notInt P ats[1]? = true) (hlen : ∀ w, (Builtin.lenOf x').run P w = .ok n w)
    (hnew : (Builtin.firstCells ie.size n x').run P w = .ok new w) (hg : sLen + n ≤ sCap) (hst : match base with | none => w' = w | some a => (storeCells (a.add (sLen * ie.size)) new.toList).run P w = .ok () w') :
    (Builtin.append_ ats ty #[.slice base sLen sCap, x']).run P w = .ok (.slice base (sLen + n) sCap) w' := by
  unfold Builtin.append_
  simp only [hat, List.getElem?_toArray, List.getElem?_cons_zero, List.getElem?_cons_succ, Sem.run_bind, run_underlying hu, Result.andThen_ok, run_sizeOf hi]
  cases ho : ats[1]? with
  | none =>
    simp only [Sem.run_bind, Sem.run_pure, Result.andThen_ok, Bool.false_eq_true, if_false, hlen, hg, if_true, Bool.not_false, hnew]
    cases base with
    | none => simp only at hst; subst hst; rfl
    | some a => simp only [Sem.run_bind, hst, Result.andThen_ok, Sem.run_pure]
  | some t =>
    rw [ho] at hni
    simp only [notInt] at hni
    cases hut : P.underlying t with
    | none => simp [hut] at hni
    | some d =>
      simp only [hut] at hni
      simp only [Sem.run_bind, run_underlying hut, Result.andThen_ok]
      cases d <;> first
        | (simp at hni; done)
        | (simp only [Sem.run_bind, Sem.run_pure, Result.andThen_ok, Bool.false_eq_true, if_false, hlen, hg, if_true, Bool.not_false, hnew]
           cases base with
           | none => simp only at hst; subst hst; rfl
           | some a => simp only [Sem.run_bind, hst, Result.andThen_ok, Sem.run_pure])
theorem grownCap_le (w : World) (need old : Nat) (e : TypeId) : need ≤ grownCap w need old e := by
  show need ≤ need + (w.tape w.drawn (.appendCap need old e)) % (2 ^ 63 - need)
  omega
/-- Behind an append that made a new array. -/
theorem grown_row {h1 : AH} (r : Rel X ρ h w) (hB : Room X w h1) {esz m n len C : Nat} {l : List Value} (hm : anew h esz l = some (m, h1)) {l' : List Value} (hl : VRL ρ l l') (hlen : l.length = n * esz)
    {s : Sem Value} {old rest : Array Value} {elem : TypeId} (hrun : s.run P w = .ok (.slice (some ⟨w.heap.size, 0, none⟩) len C) (w.drew.alloc (.cells (old ++ l'.toArray ++ rest) elem)))
    (hC : len ≤ C) (hold : len = n) (hrest : rest.size = (C - len) * esz) (ho : old = #[]) : Gives P X ρ h w s (.slice (some ⟨m, 0, none⟩) n n) h1 := by
  subst ho; subst hold
  have hl' : l'.length = len * esz := by rw [← hl.length]; exact hlen
  have hal := (r.drew).alloc (by exact hB) hm (.cells (#[] ++ l'.toArray ++ rest) elem) (C * esz) esz (by
    refine ⟨rfl, _, elem, (0, 0), rfl, ?_, ?_, fun i v hi => ?_, fun _ i _ => by simp⟩
    · simp [hl', hrest, ← Nat.add_mul]; congr 1; omega
    · simp only [Cells.ofList, hlen, Nat.zero_add]; exact Nat.mul_le_mul_right _ hC
    · rw [Cells.get_ofList] at hi
      obtain ⟨v', g1, g2⟩ := hl.get i v hi
      refine ⟨v', ?_, g2⟩
      have hi' : i < l'.length := (List.getElem?_eq_some_iff.1 g1).1
      simp only [Nat.zero_add, Array.empty_append]
      rw [Array.getElem?_append_left (by simpa using hi')]
      simpa using g1)
  exact ⟨_, _, _, hrun, .slice (bi := ⟨w.heap.size, 0, C * esz, esz⟩) Rho.upd_same (Nat.le_refl _) hC (.inr ⟨by simp, fun _ => by simp⟩), hal.1, (Ext.drew ρ h w).trans hal.2⟩
theorem run_loadCells_rc {b off k : Nat} {rc : Array Value} {ty : TypeId} {fz : Nat × Nat} (hb : w.heap[b]? = some (.cells rc ty fz)) (hk : off + k ≤ rc.size) :
    (loadCells ⟨b, off, none⟩ k).run P w = .ok ((List.range k).map fun j => rc[off + j]?.getD undef).toArray w := by
  have hc : ∀ (j : Nat) (v : Value), ((List.range k).map fun j => rc[off + j]?.getD undef)[j]? = some v → w.cell? (Addr.add ⟨b, off, none⟩ j) = some v := by
    intro j v hj
    have hjk : j < k := by
      by_cases hh : j < k
      · exact hh
      · rw [List.getElem?_eq_none (by simpa using hh)] at hj; cases hj
    rw [List.getElem?_map, List.getElem?_range hjk] at hj
    simp only [Option.map_some, Option.some.injEq] at hj
    rw [Addr.add_lit, cell_of hb]
    have hlt : off + j < rc.size := by omega
    rw [Array.getElem?_eq_getElem hlt] at hj ⊢
    simpa using hj
  have := run_loadCells_list (P := P) (w := w) ⟨b, off, none⟩ _ hc
  simpa using this
theorem Cells.shifted {c : Cells} {o k i : Nat} {v : Value} (hi : i < k) (hk : o + i < c.size) (e : ({ size := k, off := c.off + o, pat := c.pat, ov := c.ov } : Cells).get i = some v) : c.get (o + i) = some v := by
  rw [Cells.get_def] at e ⊢
  rw [(blt_iff _ _).2 hk]
  simp only [(blt_iff i k).2 hi, cond_true] at e ⊢
  rw [← Nat.add_assoc]; exact e
theorem aappend_sound {h1 : AH} (r : Rel X ρ h w) (hB : Room X w h1) {ats : Array TypeId} {ty : TypeId} {s s' x x' u : Value} (e : aappend P h ats s x = some (u, h1)) (hs : VR ρ s s') (hx : VR ρ x x') :
    Gives P X ρ h w (Builtin.append_ ats ty #[s', x']) u h1 := by
  unfold aappend at e
  cases hat : ats[0]? with
  | none => simp [hat] at e
  | some T =>
    simp only [hat] at e
    split at e
    · rename_i elem hu
      cases hi : P.info? elem with
      | none => simp [hi] at e
      | some ie =>
        simp only [hi] at e
        cases hz : azero P elem with
        | none => simp [hz] at e
        | some z =>
          simp only [hz] at e
          obtain ⟨_, _, i', hi', hiz⟩ := azero_sound (w := w) (ρ := ρ) hz
          rw [hi] at hi'; cases hi'
          cases hn : alenOf x with
          | none => simp [hn] at e
          | some n =>
            simp only [hn] at e
            cases hl : acellsOf h ie.size n x with
            | none => simp [hl] at e
            | some l =>
              simp only [hl] at e
              obtain ⟨l', f1, f2⟩ := acellsOf_sound (P := P) r hl hx hn (Nat.le_refl _)
              have hlen := alenOf_sound (P := P) hn hx
              cases hni : notInt P ats[1]? with
              | false => simp [hni] at e
              | true =>
                simp only [hni, cond_true] at e
                split at e
                · rename_i base sLen sCap
                  cases hn0 : Nat.beq n 0 with
                  | true =>
                    simp only [hn0, cond_true, Option.some.injEq, Prod.mk.injEq] at e
                    obtain ⟨rfl, rfl⟩ := e
                    have hn0' := beq_tt.1 hn0; subst hn0'
                    have hsl : ∃ a' c', s' = .slice a' sLen c' ∧ sLen ≤ c' := by
                      have hle := hs.slice_le
                      cases base with
                      | none => exact ⟨_, _, hs.inv_sliceNone, hle⟩
                      | some a => obtain ⟨a1, a2, a3⟩ := a; obtain ⟨bi, o', c', _, q, q1, q2, _⟩ := hs.inv_sliceSome; exact ⟨_, _, q, by omega⟩
                    obtain ⟨a', c', rfl, hle⟩ := hsl
                    refine ⟨.slice a' sLen c', w, ρ, ?_, hs, r, .refl _ _ _⟩
                    have hl0 : l' = [] := by
                      have hcell : l = [] := acellsOf_zero hl
                      subst hcell; cases f2; rfl
                    subst hl0
                    have hnew := f1 w rfl
                    refine run_append_fit hat hu hi hni hlen hnew (by omega) ?_
                    cases a' with
                    | none => rfl
                    | some a => simp [storeCells]
                  | false =>
                    simp only [hn0, cond_false] at e
                    have hn0' := beq_ff.1 hn0
                    cases hb : (Nat.ble ((sLen + n) * ie.bytes) 140737488355328 && Nat.blt (sLen + n) 4611686018427387904 && Nat.beq z.cells.size ie.size) with
                    | false => simp only [hb, cond_false] at e; cases e
                    | true =>
                      simp only [hb, cond_true] at e
                      simp only [Bool.and_eq_true, Nat.ble_eq, blt_iff, beq_tt] at hb
                      obtain ⟨⟨hb1, hb2⟩, hzs⟩ := hb
                      split at e
                      · rw [hs.inv_sliceNone]
                        cases hq : (Nat.beq sLen 0 && Nat.beq sCap 0 && Nat.beq l.length (n * ie.size)) with
                        | false => simp only [hq, cond_false] at e; cases e
                        | true =>
                          simp only [hq, cond_true] at e
                          simp only [Bool.and_eq_true, beq_tt] at hq
                          obtain ⟨⟨rfl, rfl⟩, hll⟩ := hq
                          have hrun := run_append_any (ty := ty) (base := none) (sLen := 0) (sCap := 0) (old := #[]) hat hu hi hiz hni hlen f1 (by omega) (by simp [Builtin.firstCells]) hb2 hb1
                          cases hm : anew h ie.size l with
                          | none => simp [hm] at e
                          | some p =>
                            obtain ⟨m, h2⟩ := p
                            simp only [hm, Option.some.injEq, Prod.mk.injEq] at e
                            obtain ⟨rfl, rfl⟩ := e
                            exact grown_row r hB hm f2 (by simpa using hll) hrun (grownCap_le w (0 + n) 0 elem) (by simp) (by simp [Builtin.zeroCells, hzs]) rfl
                      · rename_i nm o
                        obtain ⟨bi, off', cap', hbn, rfl, h1', h2', _, h3'⟩ := hs.inv_sliceSome
                        split at e
                        · rename_i esz c hg
                          cases hq : (Nat.beq esz ie.size && Nat.blt 0 ie.size && Nat.ble (o + sLen * ie.size) c.size && Nat.beq l.length (n * ie.size) && l.all cellOk) with
                          | false => simp only [hq, cond_false] at e; cases e
                          | true =>
                            simp only [hq, cond_true] at e
                            simp only [Bool.and_eq_true, beq_tt, blt_iff, Nat.ble_eq] at hq
                            obtain ⟨⟨⟨⟨hq1, hq2⟩, hq3⟩, hq4⟩, hq5⟩ := hq
                            subst hq1
                            obtain ⟨q0, rc, ty', fz, q1, q2, q3, q4, q5⟩ := r.cellsAt hg hbn
                            have hle' : l'.length = n * ie.size := by rw [← f2.length]; exact hq4
                            generalize hc0 : ({ size := (sLen + n) * ie.size, off := c.off + o, pat := c.pat, ov := c.ov } : Cells) = c0 at e
                            have hc0s : c0.size = (sLen + n) * ie.size := by rw [← hc0]
                            have hc0g : ∀ i v, i < sLen * ie.size → c0.get i = some v → c.get (o + i) = some v := fun i v hi hv => by
                              rw [← hc0] at hv
                              exact Cells.shifted (by have := Cells.get_lt hv; simpa using this) (by omega) hv
                            cases hsets : c0.sets (sLen * ie.size) l with
                            | none => simp [hsets] at e
                            | some c2 =>
                              simp only [hsets] at e
                              obtain ⟨s1, s2, s3⟩ := Cells.sets_get l c0 _ hsets
                              cases hm : (h.kill nm).new (.cells ie.size true c2) with
                              | none => simp [hm] at e
                              | some p =>
                                obtain ⟨m, h2⟩ := p
                                simp only [hm, Option.some.injEq, Prod.mk.injEq] at e
                                obtain ⟨rfl, rfl⟩ := e
                                have hmul : (sLen + n) * ie.size = sLen * ie.size + n * ie.size := Nat.add_mul _ _ _
                                by_cases hfit : sLen + n ≤ cap'
                                · have hoff := h3'.resolve_left (by omega)
                                  have hbd := hoff.2 (by omega)
                                  have hcap : (sLen + n) * ie.size ≤ cap' * bi.esz := by rw [q0]; exact Nat.mul_le_mul_right _ hfit
                                  have hoff' := hoff.1
                                  subst hoff'
                                  obtain ⟨w', rc', g1, g2, g3, g4, g5, g6, g7, g8, g9⟩ := run_storeCells_at (P := P) l' (bi.base + o + sLen * ie.size) 0 rc w q1 (f2.oneCell hq5) (by omega) (q5 rfl)
                                  have hren := r.rename (w' := w') (bj := ⟨bi.blk, bi.base + o, bi.rsize, ie.size⟩) hg rfl hbn hB hm rfl g5 g6 (by
                                    rw [g2]
                                    refine ⟨rfl, rc', ty', fz, rfl, by simp only; omega, by simp only; omega, fun i v hi => ?_, fun _ i hi => q5 rfl i (by omega)⟩
                                    have hilt := Cells.get_lt hi
                                    rw [s3 i] at hi
                                    simp only
                                    rw [g4]
                                    by_cases hio : sLen * ie.size ≤ i ∧ i < sLen * ie.size + l.length
                                    · rw [if_pos hio] at hi
                                      obtain ⟨v', e1, e2⟩ := f2.get _ v hi
                                      refine ⟨v', ?_, e2⟩
                                      rw [if_pos (by omega), ← e1]; congr 1; omega
                                    · rw [if_neg hio] at hi
                                      have hi2 : i < sLen * ie.size := by omega
                                      obtain ⟨v', e1, e2⟩ := q4 _ v (hc0g i v hi2 hi)
                                      exact ⟨v', by rw [if_neg (by omega), ← e1]; congr 1; omega, e2⟩) g7 g8 g9
                                  refine ⟨_, w', _, run_append_fit (w' := w') hat hu hi hni hlen (f1 w rfl) hfit (by
                                      simp only [Addr.add_lit]; exact g1), .slice (bi := ⟨bi.blk, bi.base + o, bi.rsize, ie.size⟩) Rho.upd_same (Nat.le_refl _) hfit (.inr ⟨by simp, fun _ => by
                                      simp only; rw [q0] at hbd; exact hbd⟩), hren.1, hren.2⟩
                                · have hwb : w.drew.heap[bi.blk]? = some (.cells rc ty' fz) := q1
                                  have hold : ∃ old : List Value, (Builtin.firstCells ie.size sLen (.slice (some ⟨bi.blk, off', none⟩) sLen cap')).run P w.drew = .ok old.toArray w.drew ∧ old.length = sLen * ie.size ∧
                                      ∀ i, i < sLen * ie.size → old[i]? = rc[bi.base + (o + i)]? := by
                                    by_cases hs0 : sLen * ie.size = 0
                                    · exact ⟨[], by simp [Builtin.firstCells, hs0, loadCells, loadCellsFrom], by simp [hs0], fun i hi => by omega⟩
                                    · have hsl : 0 < sLen := by
                                        rcases Nat.eq_zero_or_pos sLen with hh | hh
                                        · rw [hh] at hs0; simp at hs0
                                        · exact hh
                                      have hoff := h3'.resolve_left (by omega)
                                      have hoff' := hoff.1
                                      subst hoff'
                                      refine ⟨(List.range (sLen * ie.size)).map fun j => rc[bi.base + o + j]?.getD undef, ?_, by simp, fun i hi => ?_⟩
                                      · simp only [Builtin.firstCells]
                                        exact run_loadCells_rc hwb (by omega)
                                      · rw [List.getElem?_map, List.getElem?_range hi]
                                        have hlt : bi.base + o + i < rc.size := by omega
                                        simp only [Option.map_some]
                                        rw [show bi.base + (o + i) = bi.base + o + i from by omega, Array.getElem?_eq_getElem hlt]; rfl
                                  obtain ⟨old, ho1, ho2, ho3⟩ := hold
                                  have hrun := run_append_any (ty := ty) hat hu hi hiz hni hlen f1 (by omega) ho1 hb2 hb1
                                  have hkill := r.drew.kill nm
                                  have hC := grownCap_le w (sLen + n) cap' elem
                                  have hal := hkill.1.alloc (by exact hB) hm (.cells (old.toArray ++ l'.toArray ++ Builtin.zeroCells z.cells (grownCap w (sLen + n) cap' elem - (sLen + n))) elem) (grownCap w (sLen + n) cap' elem * ie.size) ie.size (by
                                    refine ⟨rfl, _, elem, (0, 0), rfl, ?_, ?_, fun i v hi => ?_, fun _ i _ => by simp⟩
                                    · simp only [Array.size_append, List.size_toArray, ho2, hle', Builtin.zeroCells, Array.size_map, Array.size_range, hzs]
                                      rw [← Nat.add_mul, ← Nat.add_mul]; congr 1; omega
                                    · simp only [Nat.zero_add, s1, hc0s]; exact Nat.mul_le_mul_right _ hC
                                    · have hilt := Cells.get_lt hi
                                      rw [s3 i] at hi
                                      simp only [Nat.zero_add]
                                      by_cases hio : sLen * ie.size ≤ i ∧ i < sLen * ie.size + l.length
                                      · rw [if_pos hio] at hi
                                        obtain ⟨v', e1, e2⟩ := f2.get _ v hi
                                        refine ⟨v', ?_, e2⟩
                                        rw [Array.getElem?_append_left (by simp; omega), Array.getElem?_append_right (by simp; omega)]
                                        simp only [List.size_toArray, ho2, List.getElem?_toArray]; exact e1
                                      · rw [if_neg hio] at hi
                                        have hi2 : i < sLen * ie.size := by omega
                                        obtain ⟨v', e1, e2⟩ := q4 _ v (hc0g i v hi2 hi)
                                        refine ⟨v', ?_, e2⟩
                                        rw [Array.getElem?_append_left (by simp; omega), Array.getElem?_append_left (by simp; omega)]
                                        simp only [List.getElem?_toArray]
                                        rw [ho3 i hi2]; exact e1)
                                  exact ⟨_, _, _, hrun, .slice (bi := ⟨w.heap.size, 0, grownCap w (sLen + n) cap' elem * ie.size, ie.size⟩) Rho.upd_same (Nat.le_refl _) hC (.inr ⟨by simp, fun _ => by simp⟩), hal.1,
                                    ((Ext.drew ρ h w).trans hkill.2).trans hal.2⟩
                        · cases e
                      · cases e
                · cases e
    · cases e
end
end Go.VII
