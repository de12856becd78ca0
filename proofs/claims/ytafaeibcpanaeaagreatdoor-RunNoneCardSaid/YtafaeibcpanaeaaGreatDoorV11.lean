/- copy, clear, bytes of a string, a string that is ranged over, lengths, the greatest and the least. -/
import Derived.Test.YtafaeibcpanaeaaGreatDoorV10
namespace Go.VII
noncomputable section
variable {P : Program} {X : Cx} {ρ : Rho} {h : AH} {w : World}
/-! ### copy, clear -/
def acopy (P : Program) (h : AH) (ats : Array TypeId) (d s : Value) : Option (Value × AH) :=
  match ats[0]? with
  | none => none
  | some T => match P.underlying T with
    | some (.slice elem) => (match P.info? elem with
      | none => none
      | some ie => match alenOf s with
        | none => none
        | some k => match d with
          | .slice none dLen _ => bif Nat.beq dLen 0 then (match acellsOf h ie.size 0 s with | none => none | some _ => some (.int .i64 0, h)) else none
          | .slice (some ⟨nm, o, none⟩) dLen _ => (match acellsOf h ie.size (Nat.min k dLen) s with
            | none => none
            | some l => match l with
              | [] => some (.int .i64 (Nat.min k dLen), h)
              | _ => match astoreAt h nm o l with
              | none => none
              | some h1 => some (.int .i64 (Nat.min k dLen), h1))
          | _ => none)
    | _ => none
theorem acopy_sound (r : Rel X ρ h w) {ats : Array TypeId} {ty : TypeId} {d d' s s' u : Value} {h1 : AH} (e : acopy P h ats d s = some (u, h1)) (hd : VR ρ d d') (hs : VR ρ s s') :
    Gives P X ρ h w (Builtin.copy_ ats ty #[d', s']) u h1 := by
  unfold acopy at e
  cases hat : ats[0]? with
  | none => simp [hat] at e
  | some T =>
    simp only [hat] at e
    split at e
    · rename_i elem hu
      cases hi : P.info? elem with
      | none => simp [hi] at e
      | some ie =>
        simp only [hi] at e
        cases hk : alenOf s with
        | none => simp [hk] at e
        | some k =>
          simp only [hk] at e
          have hlen := alenOf_sound (P := P) hk hs
          split at e
          · rename_i dLen dCap
            rw [hd.inv_sliceNone]
            cases hz : Nat.beq dLen 0 with
            | false => simp only [hz, cond_false] at e; cases e
            | true =>
              simp only [hz, cond_true] at e
              have hz' := beq_tt.1 hz; subst hz'
              cases hc : acellsOf h ie.size 0 s with
              | none => simp [hc] at e
              | some l =>
                simp only [hc, Option.some.injEq, Prod.mk.injEq] at e
                obtain ⟨rfl, rfl⟩ := e
                obtain ⟨l', f1, f2⟩ := acellsOf_sound (P := P) r hc hs hk (Nat.zero_le _)
                refine ⟨.int .i64 0, w, ρ, ?_, .flat rfl, r, .refl _ _ _⟩
                unfold Builtin.copy_
                simp only [hat, List.getElem?_toArray, List.getElem?_cons_zero, List.getElem?_cons_succ, Sem.run_bind, run_underlying hu, Result.andThen_ok, hlen, run_sizeOf hi]
                have : Nat.min k 0 = 0 := Nat.min_zero k
                rw [this, f1 w rfl]; rfl
          · rename_i nm o dLen dCap
            obtain ⟨bi, off', cap', hbn, rfl, g1, g2, _, g3⟩ := hd.inv_sliceSome
            cases hc : acellsOf h ie.size (Nat.min k dLen) s with
            | none => simp [hc] at e
            | some l =>
              simp only [hc] at e
              obtain ⟨l', f1, f2⟩ := acellsOf_sound (P := P) r hc hs hk (Nat.min_le_left _ _)
              have hrun : ∀ w', (storeCells ⟨bi.blk, off', none⟩ l').run P w = .ok () w' →
                  (Builtin.copy_ ats ty #[.slice (some ⟨bi.blk, off', none⟩) dLen cap', s']).run P w = .ok (.int .i64 (Nat.min k dLen)) w' := by
                intro w' hw'
                unfold Builtin.copy_
                simp only [hat, List.getElem?_toArray, List.getElem?_cons_zero, List.getElem?_cons_succ, Sem.run_bind, run_underlying hu, Result.andThen_ok, hlen, run_sizeOf hi]
                rw [f1 w rfl]
                simp only [Result.andThen_ok, hw', Sem.run_pure]; rfl
              split at e
              · simp only [Option.some.injEq, Prod.mk.injEq] at e
                obtain ⟨rfl, rfl⟩ := e
                cases f2
                exact ⟨_, w, ρ, hrun w (by simp [storeCells]), .flat rfl, r, .refl _ _ _⟩
              · rename_i hne
                cases hst : astoreAt h nm o l with
                | none => simp [hst] at e
                | some h2 =>
                  simp only [hst, Option.some.injEq, Prod.mk.injEq] at e
                  obtain ⟨rfl, rfl⟩ := e
                  obtain ⟨w', q1, q2, q3⟩ := astoreAt_sound (P := P) r hst hbn f2
                  have hlpos : 0 < dLen := by
                    rcases Nat.eq_zero_or_pos dLen with hh | hh
                    · subst hh
                      have hmn : Nat.min k 0 = 0 := Nat.min_zero k
                      rw [hmn] at hc
                      exact absurd (acellsOf_zero hc) hne
                    · exact hh
                  have hoff := (g3.resolve_left (by omega)).1
                  subst hoff
                  exact ⟨_, w', ρ, hrun w' q1, .flat rfl, q2, q3⟩
          · cases e
    · cases e
def aclear0 (P : Program) (h : AH) (ats : Array TypeId) (x : Value) : Option AH :=
  match ats[0]? with
  | none => none
  | some T => match P.underlying T with
    | none => none
    | some D => match x with
      | .slice (some ⟨nm, o, none⟩) n _ => bif Nat.beq n 0 then some h else
        (match D with
         | .slice elem => (match azero P elem with
           | none => none
           | some z => match (Builtin.zeroCells z.cells n).toList with
             | [] => some h
             | l => bif Nat.beq 0 z.cells.size then none else astoreAt h nm o l)
         | _ => none)
      | _ => none
theorem zeroCells_rel {z : Value} (hz : zOk z = true) (n : Nat) : VRL ρ (Builtin.zeroCells z.cells n).toList (Builtin.zeroCells z.cells n).toList := by
  have := zrow_rel (ρ := ρ) hz (n * z.cells.size) (by
    rcases Nat.eq_zero_or_pos z.cells.size with hh | hh
    · left; rw [hh, Nat.mul_zero]
    · right; exact hh)
  exact this
theorem azero_ok {t : TypeId} {z : Value} (e : azero P t = some z) : zOk z = true := by
  unfold azero at e
  cases hi : P.info? t with
  | none => simp [hi] at e
  | some i =>
    simp only [hi] at e
    cases hz : i.zero with
    | none => simp [hz] at e
    | some z' =>
      simp only [hz] at e
      cases hk : zOk z' with
      | false => simp [hk] at e
      | true => simp only [hk, cond_true, Option.some.injEq] at e; subst e; exact hk
theorem aclear0_sound (r : Rel X ρ h w) {ats : Array TypeId} {ty : TypeId} {x x' : Value} {h1 : AH} (e : aclear0 P h ats x = some h1) (hx : VR ρ x x') :
    Gives P X ρ h w (Builtin.clear_ ats ty #[x']) (.tuple #[]) h1 := by
  unfold aclear0 at e
  cases hat : ats[0]? with
  | none => simp [hat] at e
  | some T =>
    simp only [hat] at e
    cases hu : P.underlying T with
    | none => simp [hu] at e
    | some D =>
      simp only [hu] at e
      split at e
      · rename_i nm o n cap
        obtain ⟨bi, off', cap', hbn, rfl, g1, g2, _, g3⟩ := hx.inv_sliceSome
        cases hz : Nat.beq n 0 with
        | true =>
          simp only [hz, cond_true, Option.some.injEq] at e; subst e
          have hz' := beq_tt.1 hz; subst hz'
          refine ⟨.tuple #[], w, ρ, ?_, .tuple .nil, r, .refl _ _ _⟩
          unfold Builtin.clear_
          simp only [hat, List.getElem?_toArray, List.getElem?_cons_zero, Sem.run_bind, run_underlying hu, Result.andThen_ok]
          cases D <;> simp
        | false =>
          simp only [hz, cond_false] at e
          have hn0 := beq_ff.1 hz
          have hoff := (g3.resolve_left (by omega)).1
          subst hoff
          split at e
          · rename_i elem
            cases hzz : azero P elem with
            | none => simp [hzz] at e
            | some z =>
              simp only [hzz] at e
              obtain ⟨z1, _, _⟩ := azero_sound (w := w) (ρ := ρ) hzz
              have hrel := zeroCells_rel (ρ := ρ) (azero_ok hzz) n
              have hrun : ∀ w', (storeCells ⟨bi.blk, bi.base + o, none⟩ (Builtin.zeroCells z.cells n).toList).run P w = .ok () w' →
                  (Builtin.clear_ ats ty #[.slice (some ⟨bi.blk, bi.base + o, none⟩) n cap']).run P w = .ok (.tuple #[]) w' := by
                intro w' hw'
                unfold Builtin.clear_
                obtain ⟨m, rfl⟩ : ∃ m, n = m + 1 := ⟨n - 1, by omega⟩
                simp only [hat, List.getElem?_toArray, List.getElem?_cons_zero, Sem.run_bind, run_underlying hu, Result.andThen_ok, z1, hw', Sem.run_pure]
              split at e
              · rename_i hnil
                simp only [Option.some.injEq] at e; subst e
                exact ⟨.tuple #[], w, ρ, hrun w (by rw [hnil]; simp [storeCells]), .tuple .nil, r, .refl _ _ _⟩
              · cases hb : Nat.beq 0 z.cells.size with
                | true => simp only [hb, cond_true] at e; cases e
                | false =>
                  simp only [hb, cond_false] at e
                  obtain ⟨w', q1, q2, q3⟩ := astoreAt_sound (P := P) r e hbn hrel
                  exact ⟨.tuple #[], w', ρ, hrun w' q1, .tuple .nil, q2, q3⟩
          · cases e
      · cases e
/-- Bytes of a row that began as zeros. -/
def awipe (P : Program) (h : AH) (ats : Array TypeId) (x : Value) : Option AH :=
  match ats[0]? with
  | none => none
  | some T => match P.underlying T with
    | some (.slice elem) => (match x with
      | .slice (some ⟨nm, o, none⟩) n _ => bif Nat.beq n 0 then none else
        (match azero P elem with
        | some (.int k y) => (match h.get nm with
          | some (.cells esz true c) => (match c.wipe o n k y with
            | some c' => some (h.put nm (.cells esz true c'))
            | none => none)
          | _ => none)
        | _ => none)
      | _ => none)
    | _ => none
def aclear (P : Program) (h : AH) (ats : Array TypeId) (x : Value) : Option AH :=
  match awipe P h ats x with
  | some h1 => some h1
  | none => aclear0 P h ats x
theorem zeroCells_int (k : IntKind) (y : Int) (n : Nat) : (Builtin.zeroCells (Value.int k y).cells n).toList = List.replicate n (.int k y) := by
  refine List.ext_getElem? fun i => ?_
  simp only [Builtin.zeroCells, Value.cells, Array.getElem?_toList, List.getElem?_replicate]
  by_cases hi : i < n
  · simp [hi, Nat.mod_one]
  · simp [hi]
theorem awipe_sound (r : Rel X ρ h w) {ats : Array TypeId} {ty : TypeId} {x x' : Value} {h1 : AH} (e : awipe P h ats x = some h1) (hx : VR ρ x x') :
    Gives P X ρ h w (Builtin.clear_ ats ty #[x']) (.tuple #[]) h1 := by
  unfold awipe at e
  cases hat : ats[0]? with
  | none => simp [hat] at e
  | some T =>
    simp only [hat] at e
    split at e
    · rename_i elem hu
      split at e
      · rename_i nm o n cap
        obtain ⟨bi, off', cap', hbn, rfl, g1, g2, _, g3⟩ := hx.inv_sliceSome
        cases hz : Nat.beq n 0 with
        | true => simp [hz] at e
        | false =>
          simp only [hz, cond_false] at e
          have hn0 := beq_ff.1 hz
          have hoff := (g3.resolve_left (by omega)).1
          subst hoff
          split at e
          · rename_i k y hzz
            obtain ⟨z1, _, _⟩ := azero_sound (w := w) (ρ := ρ) hzz
            split at e
            · rename_i esz c hg
              split at e
              · rename_i c' hw
                cases e
                obtain ⟨s1, s2, s3⟩ := Cells.wipe_get hw
                have hrel := zeroCells_rel (ρ := ρ) (azero_ok hzz) n
                rw [zeroCells_int] at hrel
                obtain ⟨w', q1, q2, q3⟩ := acells_sound (P := P) r (o := o) hg hbn hrel (by simp [List.all_replicate, cellOk]) s1 (by simpa using s2) (fun j => by
                  rw [s3 j]
                  simp only [List.length_replicate]
                  split
                  · rename_i hj; rw [List.getElem?_replicate, if_pos (by omega)]
                  · rfl)
                refine ⟨.tuple #[], w', ρ, ?_, .tuple .nil, q2, q3⟩
                unfold Builtin.clear_
                obtain ⟨m, rfl⟩ : ∃ m, n = m + 1 := ⟨n - 1, by omega⟩
                simp only [hat, List.getElem?_toArray, List.getElem?_cons_zero, Sem.run_bind, run_underlying hu, Result.andThen_ok, z1, zeroCells_int, q1, Sem.run_pure]
              · cases e
            · cases e
          · cases e
      · cases e
    · cases e
theorem aclear_sound (r : Rel X ρ h w) {ats : Array TypeId} {ty : TypeId} {x x' : Value} {h1 : AH} (e : aclear P h ats x = some h1) (hx : VR ρ x x') :
    Gives P X ρ h w (Builtin.clear_ ats ty #[x']) (.tuple #[]) h1 := by
  unfold aclear at e
  split at e
  · rename_i h2 hw; cases e; exact awipe_sound r hw hx
  · exact aclear0_sound r e hx
/-! ### Strings -/
def astrBytes (P : Program) (h : AH) (src dst : TypeId) (x : Value) : Option (Value × AH) :=
  match x with
  | .string s => (match P.underlying src with
    | none => none
    | some _ => match P.underlying dst with
      | some (.slice e) => (match P.underlying e with
        | some (.int .u8) => (match anew h 1 (byteVals s) with
          | none => none
          | some (n, h1) => some (.slice (some ⟨n, 0, none⟩) s.size s.size, h1))
        | _ => none)
      | _ => none)
  | _ => none
theorem freeze_alloc (rc : Array Value) (e : TypeId) : (w.alloc (.cells rc e)).freeze ⟨w.heap.size, rc.size, none⟩ 1 = w.alloc (.cells rc e (rc.size, rc.size + 1)) := by
  have : (w.heap.push (.cells rc e)).modify w.heap.size (fun
      | .cells c elem (lo, hi) => .cells c elem (if lo == hi then (rc.size, rc.size + 1) else (min lo rc.size, max hi (rc.size + 1)))
      | o => o) = w.heap.push (.cells rc e (rc.size, rc.size + 1)) := by
    apply Array.ext_getElem?
    intro i
    rw [Array.getElem?_modify, Array.getElem?_push, Array.getElem?_push]
    by_cases hi : w.heap.size = i
    · subst hi; simp
    · simp [hi, Ne.symm hi]
  simp only [World.freeze, World.alloc]
  rw [if_neg (by omega)]
  exact congrArg (fun hp : Array Obj => ({ w with heap := hp } : World)) this
theorem astrBytes_sound {h1 : AH} (r : Rel X ρ h w) (hB : Room X w h1) {src dst : TypeId} {x x' u : Value} (e : astrBytes P h src dst x = some (u, h1)) (hx : VR ρ x x') : Gives P X ρ h w (convert src dst x') u h1 := by
  unfold astrBytes at e
  split at e
  · rename_i s
    rw [hx.flat_eq rfl]
    cases hs : P.underlying src with
    | none => simp [hs] at e
    | some S =>
      simp only [hs] at e
      split at e
      · rename_i el hu
        split at e
        · rename_i hel
          cases hn : anew h 1 (byteVals s) with
          | none => simp [hn] at e
          | some p =>
            obtain ⟨n, h2⟩ := p
            simp only [hn, Option.some.injEq, Prod.mk.injEq] at e
            obtain ⟨rfl, rfl⟩ := e
            have hC : s.size ≤ grownCap w s.size 0 el := by
              show s.size ≤ s.size + (w.tape w.drawn (.appendCap s.size 0 el)) % (2 ^ 63 - s.size)
              omega
            generalize hrc : (s.data.map (fun b => Value.int .u8 b.toNat) ++ Array.replicate (grownCap w s.size 0 el - s.size) (Value.int .u8 0)) = rc
            have hrcs : rc.size = grownCap w s.size 0 el := by
              rw [← hrc]; simp only [Array.size_append, Array.size_map, Array.size_replicate]
              show s.size + (grownCap w s.size 0 el - s.size) = _
              omega
            have hlen : (byteVals s).length = s.size := by simp [byteVals]
            have hal := r.drew.alloc (by exact hB) hn (.cells rc el (rc.size, rc.size + 1)) rc.size 1 (by
              refine ⟨rfl, rc, el, _, rfl, rfl, by simp [Cells.ofList, hlen, hrcs]; exact hC, fun i v hi => ?_, fun _ i hi => by simp; omega⟩
              rw [Cells.get_ofList] at hi
              have hi2 : i < (byteVals s).length := (List.getElem?_eq_some_iff.1 hi).1
              refine ⟨v, ?_, ?_⟩
              · simp only [Nat.zero_add]
                rw [← hrc, Array.getElem?_append_left (by simp; omega)]
                have : (s.data.map (fun b => Value.int .u8 b.toNat)).toList = byteVals s := by simp [byteVals]
                rw [← Array.getElem?_toList, this]; exact hi
              · have := List.mem_of_getElem? hi
                obtain ⟨b, _, rfl⟩ := List.mem_map.1 this; exact .flat rfl)
            refine ⟨.slice (some ⟨w.heap.size, 0, none⟩) s.size (grownCap w s.size 0 el), _, _, ?_, .slice (bi := ⟨w.heap.size, 0, rc.size, 1⟩) Rho.upd_same (Nat.le_refl _) hC (.inr ⟨by simp, fun _ => by simp [hrcs]⟩), hal.1, (Ext.drew ρ h w).trans hal.2⟩
            have hch : (choose (.appendCap s.size 0 el)).run P w = .ok (grownCap w s.size 0 el) w.drew := by rw [run_choose]; rfl
            have hsh : (w.drew.alloc (.cells rc el)).shape? w.heap.size = some (el, rc.size) := by have hd : w.drew.heap = w.heap := rfl; simp [World.shape?, World.alloc, hd]
            have hm : (markStringish ⟨w.heap.size, 0, none⟩).run P (w.drew.alloc (.cells rc el)) = .ok () (w.drew.alloc (.cells rc el (rc.size, rc.size + 1))) := by
              unfold markStringish
              simp only [Sem.run_bind, run_shape, hsh, Result.andThen_ok, run_freeze]
              have := freeze_alloc (w := w.drew) rc el
              simp only [World.size_drew] at this
              rw [this]
            unfold convert
            simp only [Sem.run_bind, run_underlying hs, run_underlying hu, Result.andThen_ok]
            have hin : (Conv.stringToBytes el s).run P w = .ok (.slice (some ⟨w.heap.size, 0, none⟩) s.size (grownCap w s.size 0 el)) (w.drew.alloc (.cells rc el (rc.size, rc.size + 1))) := by
              unfold Conv.stringToBytes
              simp only [Sem.run_bind, hch, Result.andThen_ok, newRow, run_newObj, Sem.run_pure, World.size_drew]
              rw [hrc]
              have := hm
              simp only [World.alloc] at this ⊢
              rw [this]; rfl
            cases S <;> simp only [run_underlying hel, Result.andThen_ok, hin]
        · cases e
      · cases e
  · cases e
def arange (P : Program) (h : AH) (t : TypeId) (x : Value) : Option (Value × AH) :=
  match P.underlying t with
  | some .string => (match x with
    | .string s => (match h.new (.iter s 0) with
      | none => none
      | some (n, h1) => some (.pointer (some ⟨n, 0, none⟩), h1))
    | _ => none)
  | _ => none
theorem arange_sound {h1 : AH} (r : Rel X ρ h w) (hB : Room X w h1) {t : TypeId} {x x' u : Value} (e : arange P h t x = some (u, h1)) (hx : VR ρ x x') : Gives P X ρ h w (Instr.range t x') u h1 := by
  unfold arange at e
  split at e
  · rename_i hu
    split at e
    · rename_i s
      rw [hx.flat_eq rfl]
      cases hn : h.new (.iter s 0) with
      | none => simp [hn] at e
      | some p =>
        obtain ⟨n, h2⟩ := p
        simp only [hn, Option.some.injEq, Prod.mk.injEq] at e
        obtain ⟨rfl, rfl⟩ := e
        have hal := r.alloc hB hn (.stringIter s 0) 0 0 ⟨rfl, rfl⟩
        exact ⟨_, _, _, by simp [Instr.range, run_underlying hu], .ptr (bi := ⟨w.heap.size, 0, 0, 0⟩) Rho.upd_same, hal.1, hal.2⟩
    · cases e
  · cases e
def anext (h : AH) (it : Value) (isString : Bool) : Option (Value × AH) :=
  match it, isString with
  | .pointer (some ⟨n, 0, none⟩), true => (match h.get n with
    | some (.iter s pos) => bif Nat.blt pos s.size then
        some (.tuple #[.bool true, .int .i64 pos, .int .i32 (Utf8.decode s pos).1], h.put n (.iter s (pos + (Utf8.decode s pos).2)))
      else some (.tuple #[.bool false], h)
    | _ => none)
  | _, _ => none
theorem anext_sound (r : Rel X ρ h w) {it it' u : Value} {b : Bool} {ty : TypeId} {h1 : AH} (e : anext h it b = some (u, h1)) (hx : VR ρ it it') :
    Gives P X ρ h w (Instr.next it' b ty) u h1 := by
  unfold anext at e
  split at e
  · rename_i n
    obtain ⟨bi, hb, rfl, _⟩ := hx.pointer
    split at e
    · rename_i s pos hg
      obtain ⟨bj, h1', h2'⟩ := r.objs n _ hg
      rw [hb] at h1'; cases h1'
      have hbz := h2'.1
      have hheap : w.heap[bi.blk]? = some (.stringIter s pos) := h2'.2
      have hgo : (getObj bi.blk).run P w = .ok (.stringIter s pos) w := by simp [getObj, Sem.run, hheap]
      rw [hbz]
      cases hlt : Nat.blt pos s.size with
      | true =>
        simp only [hlt, cond_true, Option.some.injEq, Prod.mk.injEq] at e
        obtain ⟨rfl, rfl⟩ := e
        have hlt' := (blt_iff _ _).1 hlt
        have hs := r.setObj (o' := .iter s (pos + (Utf8.decode s pos).2)) (ro := .stringIter s (pos + (Utf8.decode s pos).2)) hg rfl hb ⟨hbz, rfl⟩
        refine ⟨.tuple #[.bool true, .int .i64 pos, .int .i32 (Utf8.decode s pos).1], _, ρ, ?_, .tuple (.cons (.flat rfl) (.cons (.flat rfl) (.cons (.flat rfl) .nil))), hs.1, hs.2⟩
        have hse := run_setObj (P := P) (o := .stringIter s (pos + (Utf8.decode s pos).2)) hheap rfl
        simp [Instr.next, hgo, hlt', hse, goInt]
      | false =>
        simp only [hlt, cond_false, Option.some.injEq, Prod.mk.injEq] at e
        obtain ⟨rfl, rfl⟩ := e
        have hlt' : ¬ (pos < s.size) := by have := (blt_false _ _).1 hlt; omega
        exact ⟨.tuple #[.bool false], w, ρ, by simp [Instr.next, hgo, hlt'], .tuple (.cons (.flat rfl) .nil), r, .refl _ _ _⟩
    · cases e
  · cases e
/-! ### Lengths; the greatest, the least -/
def alen (P : Program) (h : AH) (ats : Array TypeId) (x : Value) : Option Value :=
  match ats[0]? with
  | none => none
  | some T => match P.underlying T, x with
    | some .string, .string s => some (.int .i64 s.size)
    | some (.array n _), _ => some (.int .i64 n)
    | some (.slice _), .slice _ n _ => some (.int .i64 n)
    | some (.map _ _), .map none => some (.int .i64 0)
    | some (.map _ _), .map (some n) => (match h.get n with
      | some (.map es _) => some (.int .i64 es.length)
      | _ => none)
    | _, _ => none
theorem alen_sound (r : Rel X ρ h w) {ats : Array TypeId} {ty : TypeId} {x x' u : Value} (e : alen P h ats x = some u) (hx : VR ρ x x') : (Builtin.len_ ats ty #[x']).run P w = .ok u w ∧ isFlat u = true := by
  unfold alen at e
  cases hat : ats[0]? with
  | none => simp [hat] at e
  | some T =>
    simp only [hat] at e
    split at e
    · rename_i hu; rw [hx.flat_eq rfl]; simp only [Option.some.injEq] at e; subst e; exact ⟨by simp [Builtin.len_, hat, run_underlying hu, goInt], rfl⟩
    · rename_i hu; simp only [Option.some.injEq] at e; subst e; exact ⟨by simp [Builtin.len_, hat, run_underlying hu, goInt], rfl⟩
    · rename_i hu; obtain ⟨a', c', rfl, _⟩ := hx.inv_slice; simp only [Option.some.injEq] at e; subst e; exact ⟨by simp [Builtin.len_, hat, run_underlying hu, goInt], rfl⟩
    · rename_i hu; rw [hx.flat_eq rfl]; simp only [Option.some.injEq] at e; subst e; exact ⟨by simp [Builtin.len_, hat, run_underlying hu, goInt], rfl⟩
    · rename_i hu
      obtain ⟨bi, hb, rfl⟩ := hx.inv_mapSome
      split at e
      · rename_i es ck hg
        simp only [Option.some.injEq] at e; subst e
        obtain ⟨res, q1, q2⟩ := r.mapAt hg hb
        have := q2.get.1
        refine ⟨?_, rfl⟩
        have hsz : res.size = es.length := by simpa using this
        simp [Builtin.len_, hat, run_underlying hu, run_getMap q1, goInt, hsz]
      · cases e
    · cases e
def amax2 : Value → Value → Option Value
  | .int k x, .int _ y => some (.int k (if y > x then y else x))
  | _, _ => none
def amin2 : Value → Value → Option Value
  | .int k x, .int _ y => some (.int k (if y < x then y else x))
  | _, _ => none
def afoldO (f : Value → Value → Option Value) : Value → List Value → Option Value
  | x, [] => some x
  | x, y :: l => match f x y with
    | none => none
    | some z => afoldO f z l
theorem amax_sound : ∀ {l l' : List Value} {x u : Value}, afoldO amax2 x l = some u → isFlat x = true → VRL ρ l l' → (l'.foldlM Builtin.max2 x).run P w = .ok u w ∧ isFlat u = true
  | [], _, x, u, e, hf, .nil => by simp only [afoldO, Option.some.injEq] at e; subst e; exact ⟨rfl, hf⟩
  | y :: l, _, x, u, e, hf, .cons a b => by
    simp only [afoldO] at e
    cases hz : amax2 x y with
    | none => simp [hz] at e
    | some z =>
      simp only [hz] at e
      unfold amax2 at hz
      split at hz
      · rw [a.flat_eq rfl]
        simp only [Option.some.injEq] at hz; subst hz
        obtain ⟨h1, h2⟩ := amax_sound e rfl b
        exact ⟨by simp only [List.foldlM_cons, Builtin.max2, Sem.run_bind, Sem.run_pure, Result.andThen_ok]; exact h1, h2⟩
      · cases hz
theorem amin_sound : ∀ {l l' : List Value} {x u : Value}, afoldO amin2 x l = some u → isFlat x = true → VRL ρ l l' → (l'.foldlM Builtin.min2 x).run P w = .ok u w ∧ isFlat u = true
  | [], _, x, u, e, hf, .nil => by simp only [afoldO, Option.some.injEq] at e; subst e; exact ⟨rfl, hf⟩
  | y :: l, _, x, u, e, hf, .cons a b => by
    simp only [afoldO] at e
    cases hz : amin2 x y with
    | none => simp [hz] at e
    | some z =>
      simp only [hz] at e
      unfold amin2 at hz
      split at hz
      · rw [a.flat_eq rfl]
        simp only [Option.some.injEq] at hz; subst hz
        obtain ⟨h1, h2⟩ := amin_sound e rfl b
        exact ⟨by simp only [List.foldlM_cons, Builtin.min2, Sem.run_bind, Sem.run_pure, Result.andThen_ok]; exact h1, h2⟩
      · cases hz
end
end Go.VII
