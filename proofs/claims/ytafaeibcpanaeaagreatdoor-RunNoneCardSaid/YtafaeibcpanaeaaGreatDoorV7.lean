/- Operations that make memory, or turn it. -/
import Derived.Test.YtafaeibcpanaeaaGreatDoorV6
import Derived.Laws.Append
namespace Go.VII
noncomputable section
variable {P : Program} {X : Cx} {ρ : Rho} {h : AH} {w : World}
/-- What an operation that gives a value comes to, over the world: the value, the relation kept. -/
def Gives (P : Program) (X : Cx) (ρ : Rho) (h : AH) (w : World) (s : Sem Value) (u : Value) (h1 : AH) : Prop :=
  ∃ u' w' ρ', s.run P w = .ok u' w' ∧ VR ρ' u u' ∧ Rel X ρ' h1 w' ∧ Ext ρ h w ρ' h1 w'
def Does (P : Program) (X : Cx) (ρ : Rho) (h : AH) (w : World) (s : Sem Unit) (h1 : AH) : Prop :=
  ∃ w' ρ', s.run P w = .ok () w' ∧ Rel X ρ' h1 w' ∧ Ext ρ h w ρ' h1 w'
/-! ### New memory -/
theorem OR.ofList {rc : Array Value} {l : List Value} {ty : TypeId} {b esz : Nat} (hl : VRL ρ l rc.toList) :
    OR ρ ⟨b, 0, rc.size, esz⟩ (.cells esz true (Cells.ofList l)) (some (.cells rc ty)) := by
  have hlen : l.length = rc.size := by have := hl.length; simpa using this
  refine ⟨rfl, rc, ty, (0, 0), rfl, rfl, by simp [Cells.ofList, hlen], fun i v hi => ?_, fun _ i _ => by simp⟩
  rw [Cells.get_ofList] at hi
  obtain ⟨v', h1, h2⟩ := hl.get i v hi
  exact ⟨v', by simpa using h1, h2⟩
/-- A new row of cells. -/
def anew (h : AH) (esz : Nat) (l : List Value) : Option (Nat × AH) := h.new (.cells esz true (Cells.ofList l))
theorem anew_sound {h1 : AH} (r : Rel X ρ h w) (hB : Room X w h1) {esz n : Nat} {l : List Value} (e : anew h esz l = some (n, h1)) {rc : Array Value} (hl : VRL ρ l rc.toList) (elem : TypeId) :
    (newRow elem rc).run P w = .ok ⟨w.heap.size, 0, none⟩ (w.alloc (.cells rc elem)) ∧ Rel X (ρ.upd n ⟨w.heap.size, 0, rc.size, esz⟩) h1 (w.alloc (.cells rc elem)) ∧
      Ext ρ h w (ρ.upd n ⟨w.heap.size, 0, rc.size, esz⟩) h1 (w.alloc (.cells rc elem)) := by
  have := r.alloc hB e (.cells rc elem) rc.size esz (OR.ofList hl)
  exact ⟨by simp [newRow], this.1, this.2⟩
def aalloc (P : Program) (h : AH) (elem : TypeId) : Option (Value × AH) :=
  match azero P elem with
  | none => none
  | some z => match anew h 0 z.cells.toList with
    | none => none
    | some (n, h1) => some (.pointer (some ⟨n, 0, none⟩), h1)
theorem aalloc_sound {h1 : AH} (r : Rel X ρ h w) (hB : Room X w h1) {elem : TypeId} {u : Value} (e : aalloc P h elem = some (u, h1)) : Gives P X ρ h w (Instr.alloc elem true (.tuple #[])) u h1 := by
  unfold aalloc at e
  cases hz : azero P elem with
  | none => simp [hz] at e
  | some z =>
    simp only [hz] at e
    cases hn : anew h 0 z.cells.toList with
    | none => simp [hn] at e
    | some p =>
      obtain ⟨n, h2⟩ := p
      simp only [hn, Option.some.injEq, Prod.mk.injEq] at e
      obtain ⟨rfl, rfl⟩ := e
      obtain ⟨z1, z2, _⟩ := azero_sound (w := w) (ρ := ρ) hz
      obtain ⟨g1, g2, g3⟩ := anew_sound (P := P) r hB hn z2.cells elem
      exact ⟨_, _, _, by simp [Instr.alloc, z1, newVar, g1], .ptr (bi := ⟨w.heap.size, 0, z.cells.size, 0⟩) Rho.upd_same, g2, g3⟩
def abox (h : AH) (v : Value) : Option (Value × AH) :=
  match anew h 0 v.cells.toList with
  | none => none
  | some (n, h1) => some (.pointer (some ⟨n, 0, none⟩), h1)
theorem abox_sound {h1 : AH} (r : Rel X ρ h w) (hB : Room X w h1) {elem : TypeId} {v v' u : Value} (e : abox h v = some (u, h1)) (hv : VR ρ v v') : Gives P X ρ h w (Instr.box elem v') u h1 := by
  unfold abox at e
  cases hn : anew h 0 v.cells.toList with
  | none => simp [hn] at e
  | some p =>
    obtain ⟨n, h2⟩ := p
    simp only [hn, Option.some.injEq, Prod.mk.injEq] at e
    obtain ⟨rfl, rfl⟩ := e
    obtain ⟨g1, g2, g3⟩ := anew_sound (P := P) r hB hn hv.cells elem
    exact ⟨_, _, _, by simp [Instr.box, newVar, g1], .ptr (bi := ⟨w.heap.size, 0, v'.cells.size, 0⟩) Rho.upd_same, g2, g3⟩
/-- A row of zero values. -/
def zrow (z : Value) (n : Nat) : Array Value := (Array.range n).map (z.cells[· % z.cells.size]!)
theorem zrow_rel {z : Value} (hz : zOk z = true) (n : Nat) (h0 : n = 0 ∨ 0 < z.cells.size) : VRL ρ (zrow z n).toList (zrow z n).toList := by
  have hzz := (zOk_rel (ρ := ρ) hz).cells
  refine VRL.ofGet rfl fun i v hi => ⟨v, hi, ?_⟩
  have hin : i < n := by
    by_cases hh : i < n
    · exact hh
    · rw [List.getElem?_eq_none (by simp [zrow]; omega)] at hi; cases hi
  have hpos : 0 < z.cells.size := by omega
  simp only [zrow, Array.getElem?_toList] at hi
  rw [Array.getElem?_eq_getElem (by simpa using hin)] at hi
  simp only [Array.getElem_map, Array.getElem_range, Option.some.injEq] at hi
  subst hi
  have hlt : i % z.cells.size < z.cells.size := Nat.mod_lt _ hpos
  obtain ⟨v', g1, g2⟩ := hzz.get (i % z.cells.size) z.cells[i % z.cells.size] (by simp [hlt])
  simp [hlt] at g1
  rw [getElem!_pos z.cells _ hlt]
  rw [← g1] at g2; exact g2
def abuildSlice (P : Program) (h : AH) (t : TypeId) (len : Nat) (parts : List (Nat × Value)) : Option (Value × AH) :=
  match P.underlying t with
  | some (.slice elem) =>
    (match azero P elem with
     | none => none
     | some z => match P.info? elem with
       | none => none
       | some ie => bif Nat.beq z.cells.size ie.size && Nat.ble (len * ie.size) 16777216 then
           (match Instr.fill (fun i => some (i * ie.size, ie.size)) (zrow z (len * ie.size)) parts with
            | none => none
            | some cs => match anew h ie.size cs.toList with
              | none => none
              | some (n, h1) => some (.slice (some ⟨n, 0, none⟩) len len, h1)) else none)
  | _ => none
theorem fill_size {place : Nat → Option (Nat × Nat)} : ∀ {parts : List (Nat × Value)} {a c : Array Value}, Instr.fill place a parts = some c → c.size = a.size
  | [], a, c, e => by simp only [Instr.fill, Option.some.injEq] at e; subst e; rfl
  | (i, v) :: l, a, c, e => by
    simp only [Instr.fill] at e
    cases hp : place i with
    | none => simp [hp] at e
    | some q =>
      obtain ⟨off, size⟩ := q
      simp only [hp] at e
      split at e
      · cases e
      · rw [fill_size e]
        have : ∀ (l : List (Value × Nat)) (b : Array Value), (l.foldl (fun cs (c, j) => cs.setIfInBounds (off + j) c) b).size = b.size := by
          intro l; induction l with
          | nil => intro b; rfl
          | cons x l ih => intro b; simp only [List.foldl_cons]; rw [ih]; simp
        rw [← Array.foldl_toList]; exact this _ _
theorem abuildSlice_sound {h1 : AH} (r : Rel X ρ h w) (hB : Room X w h1) {t : TypeId} {len : Nat} {parts : List (Nat × Value)} {parts' : Array (Nat × Value)} {u : Value}
    (e : abuildSlice P h t len parts = some (u, h1)) (hp : PL ρ parts parts'.toList) : Gives P X ρ h w (Instr.buildSlice t len parts') u h1 := by
  unfold abuildSlice at e
  split at e
  · rename_i elem hu
    cases hz : azero P elem with
    | none => simp [hz] at e
    | some z =>
      simp only [hz] at e
      obtain ⟨z1, z2, i, hi, hiz⟩ := azero_sound (w := w) (ρ := ρ) hz
      simp only [hi] at e
      have hzok : zOk z = true := by
        unfold azero at hz; simp only [hi, hiz] at hz
        cases hk : zOk z with
        | true => rfl
        | false => simp [hk] at hz
      cases hc : (Nat.beq z.cells.size i.size && Nat.ble (len * i.size) 16777216) with
      | false => simp only [hc, cond_false] at e; cases e
      | true =>
        simp only [hc, cond_true] at e
        simp only [Bool.and_eq_true, beq_tt, Nat.ble_eq] at hc
        cases hf : Instr.fill (fun k => some (k * i.size, i.size)) (zrow z (len * i.size)) parts with
        | none => simp [hf] at e
        | some cs =>
          simp only [hf] at e
          cases hn : anew h i.size cs.toList with
          | none => simp [hn] at e
          | some p =>
            obtain ⟨n, h2⟩ := p
            simp only [hn, Option.some.injEq, Prod.mk.injEq] at e
            obtain ⟨rfl, rfl⟩ := e
            have hpos : len * i.size = 0 ∨ 0 < z.cells.size := by
              rcases Nat.eq_zero_or_pos i.size with h0 | h0
              · left; simp [h0]
              · right; omega
            obtain ⟨cs', f1, f2⟩ := fill_rel hp (zrow_rel (ρ := ρ) hzok (len * i.size) hpos) hf
            obtain ⟨g1, g2, g3⟩ := anew_sound (P := P) r hB hn f2 elem
            have hcs : cs'.size = len * i.size := by rw [fill_size f1]; simp [zrow]
            refine ⟨_, _, _, ?_, .slice (bi := ⟨w.heap.size, 0, cs'.size, i.size⟩) Rho.upd_same (Nat.le_refl _) (Nat.le_refl _) (.inr ⟨by simp; rfl, fun _ => by simp [hcs]⟩), g2, g3⟩
            have hle : ¬ (len * i.size > 2 ^ 24) := by omega
            simp only [Instr.buildSlice, Sem.run_bind, run_underlying hu, Result.andThen_ok, run_sizeOf hi, hle, if_false]
            by_cases h0 : len * i.size = 0
            · have hzr : zrow z (len * i.size) = #[] := by simp [zrow, h0]
              rw [hzr] at f1
              have h00 : ∀ q : Nat → Value, (Array.range (len * i.size)).map q = #[] := fun q => by simp [h0]
              rw [if_pos h0]
              simp only [Sem.run_pure, Result.andThen_ok, h00, f1, Sem.run_bind, g1]
            · simp only [h0, if_false, Sem.run_bind, z1, Result.andThen_ok, Sem.run_pure]
              have : (Array.range (len * i.size)).map (z.cells[· % z.cells.size]!) = zrow z (len * i.size) := rfl
              rw [this]
              simp [f1, g1]
  · cases e
def amakeSlice (P : Program) (h : AH) (t : TypeId) (len cap : Value) : Option (Value × AH) :=
  match P.underlying t with
  | some (.slice elem) =>
    (match azero P elem with
     | none => none
     | some z => match P.info? elem with
       | none => none
       | some ie => match len, cap with
         | .int _ (.ofNat l), .int _ (.ofNat c) =>
           bif Nat.beq z.cells.size ie.size && Nat.ble l c && Nat.blt c 4611686018427387904 && Nat.ble (ie.bytes * c) 140737488355328 then
             (match h.new (.cells ie.size true { size := c * ie.size, off := 0, pat := z.cells.toList, ov := .nil }) with
              | none => none
              | some (n, h1) => some (.slice (some ⟨n, 0, none⟩) l c, h1)) else none
         | _, _ => none)
  | _ => none
theorem amakeSlice_sound {h1 : AH} (r : Rel X ρ h w) (hB : Room X w h1) {t : TypeId} {len cap len' cap' u : Value} (e : amakeSlice P h t len cap = some (u, h1)) (hl : VR ρ len len') (hc : VR ρ cap cap') :
    Gives P X ρ h w (Instr.makeSlice t len' cap') u h1 := by
  unfold amakeSlice at e
  split at e
  · rename_i elem hu
    cases hz : azero P elem with
    | none => simp [hz] at e
    | some z =>
      simp only [hz] at e
      obtain ⟨z1, z2, i, hi, hiz⟩ := azero_sound (w := w) (ρ := ρ) hz
      simp only [hi] at e
      split at e
      · rename_i k1 l k2 c
        rw [hl.flat_eq rfl, hc.flat_eq rfl]
        cases hq : (Nat.beq z.cells.size i.size && Nat.ble l c && Nat.blt c 4611686018427387904 && Nat.ble (i.bytes * c) 140737488355328) with
        | false => simp only [hq, cond_false] at e; cases e
        | true =>
          simp only [hq, cond_true] at e
          simp only [Bool.and_eq_true, beq_tt, Nat.ble_eq, blt_iff] at hq
          obtain ⟨⟨⟨q1, q2⟩, q3⟩, q4⟩ := hq
          cases hn : h.new (.cells i.size true { size := c * i.size, off := 0, pat := z.cells.toList, ov := .nil }) with
          | none => simp [hn] at e
          | some p =>
            obtain ⟨n, h2⟩ := p
            simp only [hn, Option.some.injEq, Prod.mk.injEq] at e
            obtain ⟨rfl, rfl⟩ := e
            have hsz : (zrow z (c * i.size)).size = c * i.size := by simp [zrow]
            have hal := r.alloc hB hn (.cells (zrow z (c * i.size)) elem) (c * i.size) i.size (by
              refine ⟨rfl, _, elem, (0, 0), rfl, hsz, by simp, fun j v hj => ?_, fun _ j _ => by simp⟩
              have hj' := Cells.get_lt hj
              simp only at hj'
              have hpos : 0 < z.cells.size := by
                rcases Nat.eq_zero_or_pos i.size with h0 | h0
                · rw [h0] at hj'; simp at hj'
                · omega
              have hb : Nat.blt j (c * i.size) = true := (blt_iff _ _).2 hj'
              simp only [Cells.get_def, hb, cond_true, Tr.get_nil, nth_eq, Nat.zero_add, Array.length_toList] at hj
              obtain ⟨v', g1, g2⟩ := z2.cells.get _ v hj
              refine ⟨v', ?_, g2⟩
              have hlt : j % z.cells.size < z.cells.size := Nat.mod_lt _ hpos
              simp only [zrow, Nat.zero_add]
              rw [Array.getElem?_eq_getElem (by simpa using hj')]
              simp only [Array.getElem_map, Array.getElem_range, Option.some.injEq]
              rw [getElem!_pos z.cells _ hlt]
              rw [List.getElem?_eq_getElem (by simpa using hlt)] at g1
              simpa using g1)
            refine ⟨_, _, _, ?_, .slice (bi := ⟨w.heap.size, 0, c * i.size, i.size⟩) Rho.upd_same q2 (Nat.le_refl _) (.inr ⟨by simp; rfl, fun _ => by simp⟩), hal.1, hal.2⟩
            have hwl : IntKind.i64.wrap (Int.ofNat l) = (l : Int) := by rw [← iwrap_eq]; simp only [iwrap, inKind]; rw [(blt_iff l _).2 (by omega)]; rfl
            have hwc : IntKind.i64.wrap (Int.ofNat c) = (c : Int) := by rw [← iwrap_eq]; simp only [iwrap, inKind]; rw [(blt_iff c _).2 (by omega)]; rfl
            have hm : ((i.bytes : Int) * (c : Int)) = ((i.bytes * c : Nat) : Int) := by simp
            have ht : (decide ((c : Int) < 0) || decide ((i.bytes : Int) * (c : Int) > 2 ^ 48)) = false := by
              rw [hm]
              have p : ((2 : Int) ^ 48) = 281474976710656 := rfl
              rw [p]; simp; omega
            have hcond : ¬ (((decide ((c : Int) < 0) || decide ((i.bytes : Int) * (c : Int) > 2 ^ 48)) = true ∨ (l : Int) < 0) ∨ (l : Int) > (c : Int)) := by
              rw [ht]; simp; omega
            unfold Instr.makeSlice
            simp only [Sem.run_bind, run_underlying hu, Result.andThen_ok, asInt, asIntOf, Sem.run_pure, typeInfo, run_program, hi, hwl, hwc]
            simp only [Bool.or_eq_true] at hcond ⊢
            rw [if_neg (by simpa using hcond)]
            simp only [Result.andThen_ok, run_askRoom, Sem.run_bind, run_sizeOf hi, Int.toNat_natCast]
            by_cases h0 : c * i.size = 0
            · have hzr : zrow z (c * i.size) = #[] := by simp [zrow, h0]
              have h00 : ∀ q : Nat → Value, (Array.range (c * i.size)).map q = #[] := fun q => by simp [h0]
              rw [hzr, if_pos h0]
              simp only [Sem.run_pure, Result.andThen_ok, h00, newRow, Sem.run_bind, run_newObj]
              rfl
            · simp only [h0, if_false, Sem.run_bind, z1, Result.andThen_ok, Sem.run_pure, newRow, run_newObj]
              rfl
      · cases e
  · cases e
end
end Go.VII
