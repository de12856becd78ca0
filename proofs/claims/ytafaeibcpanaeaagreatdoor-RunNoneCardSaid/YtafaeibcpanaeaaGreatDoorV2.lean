/- Reading and writing cells: over the heap of names, and over the model's world. -/
import Derived.Test.YtafaeibcpanaeaaGreatDoorV1
import Derived.Laws.Entries
import Derived.Laws.Cells
import Derived.Laws.Tables
namespace Go.VII
noncomputable section
variable {P : Program} {X : Cx} {ρ : Rho} {h : AH} {w : World}
theorem cell_of {rc : Array Value} {ty : TypeId} {fz : Nat × Nat} {b o : Nat} (hb : w.heap[b]? = some (.cells rc ty fz)) : w.cell? ⟨b, o, none⟩ = rc[o]? := by
  simp [World.cell?, hb]
theorem frozen_of {rc : Array Value} {ty : TypeId} {fz : Nat × Nat} {b o : Nat} (hb : w.heap[b]? = some (.cells rc ty fz)) : w.frozen? ⟨b, o, none⟩ = (decide (fz.1 ≤ o) && decide (o < fz.2)) := by
  simp [World.frozen?, hb]
theorem VR.pointer {n o : Nat} {sp : Option Nat} {v' : Value} (h : VR ρ (.pointer (some ⟨n, o, sp⟩)) v') : ∃ bi, ρ n = some bi ∧ v' = .pointer (some ⟨bi.blk, bi.base + o, none⟩) ∧ sp = none := by
  cases h with
  | flat hf => simp [isFlat] at hf
  | ptr hb => exact ⟨_, hb, rfl, rfl⟩
theorem VR.flat_eq {v v' : Value} (h : VR ρ v v') (hf : isFlat v = true) : v' = v := by
  cases h with
  | flat _ => rfl
  | ptr _ => simp [isFlat] at hf
  | slice _ _ _ _ => simp [isFlat] at hf
  | map _ => simp [isFlat] at hf
  | func _ _ => simp [isFlat] at hf
  | iface _ => simp [isFlat] at hf
  | agg _ => simp [isFlat] at hf
  | tuple _ => simp [isFlat] at hf
  | sym _ _ => simp [isFlat] at hf
  | symS _ _ => simp [isFlat] at hf
  | symN _ _ => simp [isFlat] at hf
theorem VR.cells {v v' : Value} (h : VR ρ v v') : VRL ρ v.cells.toList v'.cells.toList := by
  cases h with
  | flat hf => cases v <;> first | exact .cons (.flat hf) .nil | simp [isFlat] at hf
  | ptr hb => exact .cons (.ptr hb) .nil
  | slice a b c d => exact .cons (.slice a b c d) .nil
  | map a => exact .cons (.map a) .nil
  | func a b => exact .cons (.func a b) .nil
  | iface a => exact .cons (.iface a) .nil
  | agg a => exact a
  | tuple a => exact .cons (.tuple a) .nil
  | sym p a => exact .cons (.sym p a) .nil
  | symS p a => exact .cons (.symS p a) .nil
  | symN p a => exact .cons (.symN p a) .nil
/-- Cells that were known to the heap of names are there. -/
theorem Rel.cellsAt (r : Rel X ρ h w) {n : Nat} {esz : Nat} {rw : Bool} {c : Cells} (hg : h.get n = some (.cells esz rw c)) {bi : BI} (hb : ρ n = some bi) :
    bi.esz = esz ∧ ∃ rc ty fz, w.heap[bi.blk]? = some (.cells rc ty fz) ∧ rc.size = bi.rsize ∧ bi.base + c.size ≤ bi.rsize ∧
      (∀ (i : Nat) (v : Value), c.get i = some v → ∃ v', rc[bi.base + i]? = some v' ∧ VR ρ v v') ∧ (rw = true → ∀ i, i < rc.size → ¬ (fz.1 ≤ i ∧ i < fz.2)) := by
  obtain ⟨bj, h1, h2⟩ := r.objs n _ hg
  rw [hb] at h1; cases h1; exact h2
theorem run_load_of {a : Addr} {v : Value} (hv : w.cell? a = some v) : (load a).run P w = .ok v w := by simp [run_load, hv]
theorem Rel.run_loadCellsH (r : Rel X ρ h w) {n o k : Nat} {esz : Nat} {rw : Bool} {c : Cells} {l : List Value} (hg : h.get n = some (.cells esz rw c)) {bi : BI} (hb : ρ n = some bi) (hl : c.gets o k = some l) :
    ∃ l', (∀ w' : World, w'.heap = w.heap → (loadCells ⟨bi.blk, bi.base + o, none⟩ k).run P w' = .ok l'.toArray w') ∧ VRL ρ l l' := by
  obtain ⟨_, rc, ty, fz, h1, h2, h3, h4, _⟩ := r.cellsAt hg hb
  obtain ⟨g1, g2⟩ := Cells.gets_get k o hl
  refine ⟨(List.range k).map fun j => rc[bi.base + (o + j)]?.getD undef, ?_, ?_⟩
  · intro w' hw'
    have h1' : w'.heap[bi.blk]? = some (.cells rc ty fz) := by rw [hw']; exact h1
    have hc : ∀ (j : Nat) (v : Value), ((List.range k).map fun j => rc[bi.base + (o + j)]?.getD undef)[j]? = some v → w'.cell? (Addr.add ⟨bi.blk, bi.base + o, none⟩ j) = some v := by
      intro j v hj
      rw [Addr.add_lit, cell_of h1']
      have hjk : j < k := by
        by_cases hh : j < k
        · exact hh
        · rw [List.getElem?_eq_none (by simpa using hh)] at hj; cases hj
      have hlj : j < l.length := by omega
      obtain ⟨v', e1, _⟩ := h4 (o + j) _ (g2 j l[j] (by simp [hlj]))
      rw [List.getElem?_map, List.getElem?_range hjk] at hj
      simp only [Option.map_some, Option.some.injEq] at hj
      rw [e1] at hj; simp at hj; subst hj
      rw [show bi.base + o + j = bi.base + (o + j) from by omega]; exact e1
    have := run_loadCells_list (P := P) (w := w') ⟨bi.blk, bi.base + o, none⟩ ((List.range k).map fun j => rc[bi.base + (o + j)]?.getD undef) hc
    simpa using this
  · refine VRL.ofGet (by simp [g1]) fun i v hi => ?_
    obtain ⟨v', e1, e2⟩ := h4 (o + i) v (g2 i v hi)
    have hik : i < k := by
      by_cases hh : i < k
      · exact hh
      · rw [List.getElem?_eq_none (by omega)] at hi; cases hi
    refine ⟨v', ?_, e2⟩
    rw [List.getElem?_map, List.getElem?_range hik]
    simp [e1]
theorem Rel.run_loadCells (r : Rel X ρ h w) {n o k : Nat} {esz : Nat} {rw : Bool} {c : Cells} {l : List Value} (hg : h.get n = some (.cells esz rw c)) {bi : BI} (hb : ρ n = some bi) (hl : c.gets o k = some l) :
    ∃ l', (loadCells ⟨bi.blk, bi.base + o, none⟩ k).run P w = .ok l'.toArray w ∧ VRL ρ l l' := by
  obtain ⟨l', h1, h2⟩ := r.run_loadCellsH (P := P) hg hb hl
  exact ⟨l', h1 w rfl, h2⟩
def isAggD : TypeDesc → Bool
  | .struct _ | .array _ _ => true
  | _ => false
/-- A variable is read. -/
def aloadAt (P : Program) (h : AH) (t : TypeId) (n o : Nat) : Option Value :=
  match P.underlying t with
  | none => none
  | some d =>
    bif isAggD d then
      match P.info? t with
      | none => none
      | some i => bif Nat.beq i.size 0 then some (.agg #[]) else
        match h.get n with
        | some (.cells _ _ c) => (match c.gets o i.size with | some l => some (.agg l.toArray) | none => none)
        | _ => none
    else match h.get n with
      | some (.cells _ _ c) => c.get o
      | _ => none
def aload (P : Program) (h : AH) (t : TypeId) : Value → Option Value
  | .pointer (some ⟨n, o, none⟩) => aloadAt P h t n o
  | _ => none
theorem run_isAgg {t : TypeId} {d : TypeDesc} (ht : P.underlying t = some d) : (isAgg t).run P w = .ok (isAggD d) w := by
  simp only [isAgg, Sem.run_bind, run_underlying ht, Result.andThen_ok]
  cases d <;> rfl
theorem run_sizeOf {t : TypeId} {i : TypeInfo} (hi : P.info? t = some i) : (sizeOf t).run P w = .ok i.size w := by simp [sizeOf, typeInfo, hi]
theorem aloadAt_sound (r : Rel X ρ h w) {t : TypeId} {n o : Nat} {u : Value} (e : aloadAt P h t n o = some u) {bi : BI} (hb : ρ n = some bi) :
    ∃ u', (loadVar t ⟨bi.blk, bi.base + o, none⟩).run P w = .ok u' w ∧ VR ρ u u' := by
  unfold aloadAt at e
  cases hu : P.underlying t with
  | none => simp [hu] at e
  | some d =>
    simp only [hu] at e
    have ha := run_isAgg (w := w) hu
    cases hd : isAggD d with
    | true =>
      simp only [hd, cond_true] at e
      rw [hd] at ha
      cases hi : P.info? t with
      | none => simp [hi] at e
      | some i =>
        simp only [hi] at e
        have hs := run_sizeOf (w := w) hi
        cases hz : Nat.beq i.size 0 with
        | true =>
          simp only [hz, cond_true, Option.some.injEq] at e; subst e
          have hz0 : i.size = 0 := beq_tt.1 hz
          exact ⟨.agg #[], by simp [loadVar, ha, hs, hz0, loadCells, loadCellsFrom], .agg .nil⟩
        | false =>
          simp only [hz, cond_false] at e
          cases hg : h.get n with
          | none => simp [hg] at e
          | some ob =>
            cases ob with
            | map es ck => simp [hg] at e
            | iter s p => simp [hg] at e
            | cells esz rw c =>
              simp only [hg] at e
              cases hl : c.gets o i.size with
              | none => simp [hl] at e
              | some l =>
                simp only [hl, Option.some.injEq] at e; subst e
                obtain ⟨l', h1, h2⟩ := r.run_loadCells (P := P) hg hb hl
                exact ⟨.agg l'.toArray, by simp [loadVar, ha, hs, h1], .agg (by simpa using h2)⟩
    | false =>
      simp only [hd, cond_false] at e
      rw [hd] at ha
      cases hg : h.get n with
      | none => simp [hg] at e
      | some ob =>
        cases ob with
        | map es ck => simp [hg] at e
        | iter s p => simp [hg] at e
        | cells esz rw c =>
          simp only [hg] at e
          obtain ⟨_, rc, ty, fz, h1, h2, h3, h4, _⟩ := r.cellsAt hg hb
          obtain ⟨v', e1, e2⟩ := h4 o u e
          exact ⟨v', by simp only [loadVar, Sem.run_bind, ha, Result.andThen_ok]; exact run_load_of (by rw [cell_of h1]; exact e1), e2⟩
theorem aload_sound (r : Rel X ρ h w) {t : TypeId} {v v' u : Value} (e : aload P h t v = some u) (hv : VR ρ v v') : ∃ u', (Instr.loadAt t v').run P w = .ok u' w ∧ VR ρ u u' := by
  unfold aload at e
  split at e
  · obtain ⟨bi, hb, rfl, _⟩ := hv.pointer
    obtain ⟨u', h1, h2⟩ := aloadAt_sound r e hb
    exact ⟨u', by simp only [Instr.loadAt, Instr.sureAddr, Sem.run_bind, Sem.run_pure, Result.andThen_ok]; exact h1, h2⟩
  · cases e
/-! ### Writing -/
def cellOk : Value → Bool
  | .agg _ | .tuple _ => false
  | _ => true
theorem VR.cellOk {v v' : Value} (h : VR ρ v v') (hc : cellOk v = true) : v'.oneCell' = true := by
  cases h <;> first | rfl | (cases v <;> first | rfl | simp [VII.cellOk] at hc) | simp [VII.cellOk] at hc
theorem heap_setCell {b o : Nat} {v : Value} {rc : Array Value} {ty : TypeId} {fz : Nat × Nat} (hb : w.heap[b]? = some (.cells rc ty fz)) :
    (w.setCell ⟨b, o, none⟩ v).heap[b]? = some (.cells (rc.setIfInBounds o v) ty fz) := by
  have : w.heap[b]? = some (.cells rc ty fz) := hb
  simp only [World.setCell, Array.getElem?_modify, if_true]
  rw [this]; rfl
theorem heap_setCell_ne {b o k : Nat} {v : Value} (hk : k ≠ b) : (w.setCell ⟨b, o, none⟩ v).heap[k]? = w.heap[k]? := by
  simp [World.setCell, Array.getElem?_modify, Ne.symm hk]
theorem run_storeCells_at {b : Nat} {ty : TypeId} {fz : Nat × Nat} : ∀ (vs : List Value) (o i : Nat) (rc : Array Value) (w : World), w.heap[b]? = some (.cells rc ty fz) →
    (∀ v ∈ vs, v.oneCell' = true) → o + i + vs.length ≤ rc.size → (∀ i, i < rc.size → ¬ (fz.1 ≤ i ∧ i < fz.2)) →
    ∃ w' rc', (storeCells ⟨b, o, none⟩ vs i).run P w = .ok () w' ∧ w'.heap[b]? = some (.cells rc' ty fz) ∧ rc'.size = rc.size ∧
      (∀ j, rc'[j]? = if o + i ≤ j ∧ j < o + i + vs.length then vs[j - (o + i)]? else rc[j]?) ∧ w'.heap.size = w.heap.size ∧ (∀ k, k ≠ b → w'.heap[k]? = w.heap[k]?) ∧
      w'.tape = w.tape ∧ w'.os = w.os ∧ w'.output = w.output
  | [], o, i, rc, w, hb, _, _, _ => ⟨w, rc, by simp [storeCells], hb, rfl, fun j => by rw [if_neg]; simp only [List.length_nil]; omega, rfl, fun _ _ => rfl, rfl, rfl, rfl⟩
  | v :: vs, o, i, rc, w, hb, hone, hsz, hfz => by
    have hlen : o + i < rc.size := by simp at hsz; omega
    have hst : (store (Addr.add ⟨b, o, none⟩ i) v).run P w = .ok () (w.setCell ⟨b, o + i, none⟩ v) := by
      rw [Addr.add_lit, run_store _ _ _ _ _ (hone v (by simp))]
      have hc : w.cell? ⟨b, o + i, none⟩ = some rc[o + i] := by rw [cell_of hb]; simp [hlen]
      have hf : w.frozen? ⟨b, o + i, none⟩ = false := by
        rw [frozen_of hb]
        have := hfz (o + i) hlen
        by_cases h1 : fz.1 ≤ o + i <;> by_cases h2 : o + i < fz.2 <;> simp_all
      simp [hc, hf]
    obtain ⟨w', rc', g1, g2, g3, g4, g5, g6, g7, g8, g9⟩ := run_storeCells_at vs o (i + 1) (rc.setIfInBounds (o + i) v) (w.setCell ⟨b, o + i, none⟩ v) (heap_setCell hb)
      (fun u hu => hone u (by simp [hu])) (by simp at hsz ⊢; omega) (fun k hk => hfz k (by simpa using hk))
    refine ⟨w', rc', by simp only [storeCells, Sem.run_bind, hst, Result.andThen_ok]; exact g1, g2, by simpa using g3, fun j => ?_, by rw [g5]; simp, fun k hk => by rw [g6 k hk, heap_setCell_ne hk], by rw [g7]; rfl, by rw [g8]; rfl, by rw [g9]; rfl⟩
    rw [g4 j]
    by_cases hj : o + (i + 1) ≤ j ∧ j < o + (i + 1) + vs.length
    · rw [if_pos hj, if_pos (by simp; omega)]
      obtain ⟨q, rfl⟩ : ∃ q, j = o + i + 1 + q := ⟨j - (o + i + 1), by omega⟩
      rw [show o + i + 1 + q - (o + i) = q + 1 from by omega, show o + i + 1 + q - (o + (i + 1)) = q from by omega]; simp
    · rw [if_neg hj]
      by_cases hj2 : j = o + i
      · subst hj2; rw [if_pos (by simp)]; simp [hlen]
      · rw [if_neg (by simp; omega)]
        rw [Array.getElem?_setIfInBounds, if_neg (by omega)]
def astoreAt (h : AH) (n o : Nat) (cs : List Value) : Option AH :=
  match cs with
  | [] => some h
  | _ => match h.get n with
    | some (.cells esz true c) => bif cs.all cellOk then (match c.sets o cs with | some c' => some (h.put n (.cells esz true c')) | none => none) else none
    | _ => none
theorem VRL.oneCell : ∀ {l l' : List Value}, VRL ρ l l' → l.all cellOk = true → ∀ v ∈ l', v.oneCell' = true
  | _, _, .nil, _, v, hv => by simp at hv
  | _, _, .cons a b, hc, v, hv => by
    simp only [List.all_cons, Bool.and_eq_true] at hc
    rcases List.mem_cons.1 hv with rfl | hv
    · exact a.cellOk hc.1
    · exact VRL.oneCell b hc.2 v hv
theorem astoreAt_sound (r : Rel X ρ h w) {n o : Nat} {cs cs' : List Value} {h1 : AH} (e : astoreAt h n o cs = some h1) {bi : BI} (hb : ρ n = some bi) (hc : VRL ρ cs cs') :
    ∃ w', (storeCells ⟨bi.blk, bi.base + o, none⟩ cs').run P w = .ok () w' ∧ Rel X ρ h1 w' ∧ Ext ρ h w ρ h1 w' := by
  unfold astoreAt at e
  split at e
  · cases hc; simp only [Option.some.injEq] at e; subst e
    exact ⟨w, by simp [storeCells], r, .refl _ _ _⟩
  · rename_i hne
    split at e
    · rename_i esz c hg
      cases hall : cs.all cellOk with
      | false => simp [hall] at e
      | true =>
        simp only [hall, cond_true] at e
        cases hs : c.sets o cs with
        | none => simp [hs] at e
        | some c' =>
          simp only [hs, Option.some.injEq] at e; subst e
          obtain ⟨q0, rc, ty, fz, q1, q2, q3, q4, q5⟩ := r.cellsAt hg hb
          obtain ⟨s1, s2, s3⟩ := Cells.sets_get cs c o hs
          have hlen := hc.length
          have hfit := s2 hne
          obtain ⟨w', rc', g1, g2, g3, g4, g5, g6, g7, g8, g9⟩ := run_storeCells_at (P := P) cs' (bi.base + o) 0 rc w q1 (hc.oneCell hall) (by omega) (q5 rfl)
          have hw := r.write (w' := w') (o' := .cells esz true c') hg rfl hb g5 g6 (by
            rw [g2]
            refine ⟨q0, rc', ty, fz, rfl, by omega, by omega, fun i v hi => ?_, fun _ i hi => q5 rfl i (by omega)⟩
            rw [s3 i] at hi
            rw [g4]
            by_cases hio : o ≤ i ∧ i < o + cs.length
            · rw [if_pos hio] at hi
              obtain ⟨v', e1, e2⟩ := hc.get _ v hi
              refine ⟨v', ?_, e2⟩
              rw [if_pos (by omega), ← e1]; congr 1; omega
            · rw [if_neg hio] at hi
              obtain ⟨v', e1, e2⟩ := q4 i v hi
              exact ⟨v', by rw [if_neg (by omega)]; exact e1, e2⟩) g7 g8 g9
          exact ⟨w', g1, hw.1, hw.2⟩
    · cases e
/-- Cells that are cleared at once: what lay there is forgotten. -/
def Tr.cut {α : Type} (lo hi : Nat) : Nat → Nat → Tr α → Tr α
  | _, _, .nil => .nil
  | s, b, .one j a => bif Nat.ble lo (b + s * j) && Nat.blt (b + s * j) hi then .nil else .one j a
  | s, b, .node l r => .node (Tr.cut lo hi (s + s) b l) (Tr.cut lo hi (s + s) (b + s) r)
theorem Tr.get_cut {α : Type} (lo hi : Nat) : ∀ (t : Tr α) (s b d k : Nat), Tr.get d (Tr.cut lo hi s b t) k = if lo ≤ b + s * k ∧ b + s * k < hi then none else Tr.get d t k
  | .nil, s, b, d, k => by simp [Tr.cut, Tr.get_nil]
  | .one j a, s, b, d, k => by
    cases hb : (Nat.ble lo (b + s * j) && Nat.blt (b + s * j) hi) with
    | true =>
      simp only [Tr.cut, hb, cond_true, Tr.get_nil, Tr.get_one]
      simp only [Bool.and_eq_true, Nat.ble_eq, blt_iff] at hb
      split
      · rfl
      · rename_i hn
        rw [if_neg]
        rintro ⟨rfl, _⟩
        exact hn hb
    | false =>
      simp only [Tr.cut, hb, cond_false, Tr.get_one]
      by_cases hy : j = k ∧ k < 2 ^ d
      · obtain ⟨rfl, h2⟩ := hy
        rw [if_pos ⟨rfl, h2⟩, if_neg]
        intro hy
        have : (Nat.ble lo (b + s * j) && Nat.blt (b + s * j) hi) = true := by
          simp only [Bool.and_eq_true, Nat.ble_eq, blt_iff]; exact hy
        rw [hb] at this; cases this
      · rw [if_neg hy]; split <;> rfl
  | .node l r, s, b, d, k => by
    simp only [Tr.cut]
    cases d with
    | zero => rw [Tr.get_def, Tr.get_def]; simp
    | succ d =>
      rw [Tr.get_succ, Tr.get_succ (t := .node l r)]
      simp only [Tr.lft, Tr.rgt]
      by_cases hk : k % 2 = 0
      · simp only [hk, if_true]
        rw [Tr.get_cut lo hi l]
        have he : b + (s + s) * (k / 2) = b + s * k := by
          have h1 : k = 2 * (k / 2) := by omega
          conv => rhs; rw [h1]
          rw [← Nat.mul_assoc, Nat.mul_comm s 2, Nat.two_mul]
        rw [he]
      · simp only [hk, if_false]
        rw [Tr.get_cut lo hi r]
        have he : b + s + (s + s) * (k / 2) = b + s * k := by
          have h1 : k = 2 * (k / 2) + 1 := by omega
          conv => rhs; rw [h1]
          rw [Nat.mul_add, ← Nat.mul_assoc, Nat.mul_comm s 2, Nat.two_mul]; omega
        rw [he]
def Cells.wipe (c : Cells) (i n : Nat) (k : IntKind) (y : Int) : Option Cells :=
  match c with
  | ⟨sz, off, pat, ov⟩ => match pat with
    | [.int k' y'] => bif decide (k' = k) && decide (y' = y) && Nat.ble (i + n) sz then some ⟨sz, off, pat, Tr.cut (off + i) (off + i + n) 1 0 ov⟩ else none
    | _ => none
theorem Cells.wipe_get {c c' : Cells} {i n : Nat} {k : IntKind} {y : Int} (h : c.wipe i n k y = some c') :
    c'.size = c.size ∧ i + n ≤ c.size ∧ ∀ j, c'.get j = if i ≤ j ∧ j < i + n then some (.int k y) else c.get j := by
  obtain ⟨sz, off, pat, ov⟩ := c
  simp only [Cells.wipe] at h
  split at h
  · rename_i k' y'
    cases hb : (decide (k' = k) && decide (y' = y) && Nat.ble (i + n) sz) with
    | false => rw [hb] at h; cases h
    | true =>
    rw [hb] at h
    simp only [Bool.and_eq_true, decide_eq_true_eq, Nat.ble_eq] at hb
    obtain ⟨⟨rfl, rfl⟩, e3⟩ := hb
    cases h
    refine ⟨rfl, e3, fun j => ?_⟩
    simp only [Cells.get_def, Tr.get_cut]
    by_cases hj : j < sz
    · rw [(blt_iff _ _).2 hj]
      simp only [cond_true, Nat.zero_add, Nat.one_mul]
      by_cases hij : i ≤ j ∧ j < i + n
      · rw [if_pos (by omega), if_pos hij]
        simp only [List.length_cons, List.length_nil, Nat.zero_add, Nat.mod_one, nth_zero]
      · rw [if_neg (by omega), if_neg hij]
    · have hb : Nat.blt j sz = false := (blt_false _ _).2 (by omega)
      rw [hb]
      simp only [cond_false]
      rw [if_neg (by omega)]
  · cases h
/-- A row of one's own is written, however its cells came about. -/
theorem acells_sound (r : Rel X ρ h w) {n o : Nat} {cs cs' : List Value} {esz : Nat} {c c' : Cells} (hg : h.get n = some (.cells esz true c)) {bi : BI} (hb : ρ n = some bi) (hc : VRL ρ cs cs') (hall : cs.all cellOk = true)
    (s1 : c'.size = c.size) (hfit : o + cs.length ≤ c.size) (s3 : ∀ j, c'.get j = if o ≤ j ∧ j < o + cs.length then cs[j - o]? else c.get j) :
    ∃ w', (storeCells ⟨bi.blk, bi.base + o, none⟩ cs').run P w = .ok () w' ∧ Rel X ρ (h.put n (.cells esz true c')) w' ∧ Ext ρ h w ρ (h.put n (.cells esz true c')) w' := by
  obtain ⟨q0, rc, ty, fz, q1, q2, q3, q4, q5⟩ := r.cellsAt hg hb
  have hlen := hc.length
  obtain ⟨w', rc', g1, g2, g3, g4, g5, g6, g7, g8, g9⟩ := run_storeCells_at (P := P) cs' (bi.base + o) 0 rc w q1 (hc.oneCell hall) (by omega) (q5 rfl)
  have hw := r.write (w' := w') (o' := .cells esz true c') hg rfl hb g5 g6 (by
    rw [g2]
    refine ⟨q0, rc', ty, fz, rfl, by omega, by omega, fun i v hi => ?_, fun _ i hi => q5 rfl i (by omega)⟩
    rw [s3 i] at hi
    rw [g4]
    by_cases hio : o ≤ i ∧ i < o + cs.length
    · rw [if_pos hio] at hi
      obtain ⟨v', e1, e2⟩ := hc.get _ v hi
      refine ⟨v', ?_, e2⟩
      rw [if_pos (by omega), ← e1]; congr 1; omega
    · rw [if_neg hio] at hi
      obtain ⟨v', e1, e2⟩ := q4 i v hi
      exact ⟨v', by rw [if_neg (by omega)]; exact e1, e2⟩) g7 g8 g9
  exact ⟨w', g1, hw.1, hw.2⟩
def astore (P : Program) (h : AH) (t : TypeId) (v x : Value) : Option AH :=
  match v with
  | .pointer (some ⟨n, o, none⟩) => (match P.info? t with
    | some i => bif Nat.beq x.cells.toList.length i.size then astoreAt h n o x.cells.toList else none
    | none => none)
  | _ => none
theorem astore_sound (r : Rel X ρ h w) {t : TypeId} {v v' x x' : Value} {h1 : AH} (e : astore P h t v x = some h1) (hv : VR ρ v v') (hx : VR ρ x x') :
    ∃ w', (Instr.storeAt t v' x').run P w = .ok () w' ∧ Rel X ρ h1 w' ∧ Ext ρ h w ρ h1 w' := by
  unfold astore at e
  split at e
  · obtain ⟨bi, hb, rfl, _⟩ := hv.pointer
    cases hi : P.info? t with
    | none => simp [hi] at e
    | some i =>
      simp only [hi] at e
      cases hz : Nat.beq x.cells.toList.length i.size with
      | false => simp only [hz, cond_false] at e; cases e
      | true =>
        simp only [hz, cond_true] at e
        have hsz := beq_tt.1 hz
        have hcs := hx.cells
        obtain ⟨w', g1, g2, g3⟩ := astoreAt_sound (P := P) r e hb hcs
        refine ⟨w', ?_, g2, g3⟩
        have hl := hcs.length
        have hl' : x'.cells.size = i.size := by simp at hl hsz; omega
        simp only [Instr.storeAt, Instr.sureAddr, Sem.run_bind, Sem.run_pure, Result.andThen_ok, storeVar, run_sizeOf hi, hl', ne_eq, not_true_eq_false, if_false]
        simpa using g1
  · cases e
end
end Go.VII
