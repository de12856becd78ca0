/- Conversions, lookups, builtins, structs by value: operations that turn nothing. -/
import Derived.Test.YtafaeibcpanaeaaGreatDoorV4
namespace Go.VII
noncomputable section
variable {P : Program} {X : Cx} {ρ : Rho} {h : AH} {w : World}
/-! ### Conversions -/
def byteNums : List Value → Option (List Int)
  | [] => some []
  | .int .u8 n :: l => (match byteNums l with | some r => some (n :: r) | none => none)
  | _ => none
theorem byteNums_eq : ∀ {l : List Value} {ns : List Int}, byteNums l = some ns → l = ns.map (Value.int .u8)
  | [], ns, e => by simp only [byteNums, Option.some.injEq] at e; subst e; rfl
  | v :: l, ns, e => by
    unfold byteNums at e
    split at e
    · rename_i h; cases h
    · rename_i n l' heq
      cases heq
      cases hr : byteNums l with
      | none => simp [hr] at e
      | some r => simp only [hr, Option.some.injEq] at e; subst e; rw [byteNums_eq hr]; rfl
    · cases e
theorem VRL.flat_eq : ∀ {l l' : List Value}, VRL ρ l l' → (∀ v ∈ l, isFlat v = true) → l' = l
  | _, _, .nil, _ => rfl
  | _, _, .cons a b, hf => by rw [a.flat_eq (hf _ (by simp)), VRL.flat_eq b fun v hv => hf v (by simp [hv])]
/-- The bytes of a slice of bytes, as it lies in the heap of names. -/
def abytes (h : AH) (v : Value) : Option (List Int) :=
  match v with
  | .slice none n _ => bif Nat.beq n 0 then some [] else none
  | .slice (some ⟨n, o, none⟩) len _ => bif Nat.beq len 0 then some [] else
    (match h.get n with
     | some (.cells _ _ c) => (match c.gets o len with | some l => byteNums l | none => none)
     | _ => none)
  | _ => none
theorem abytes_load (r : Rel X ρ h w) {n o len : Nat} {bi : BI} {ns : List Int} {l : List Value} {esz : Nat} {rw : Bool} {c : Cells} (hg : h.get n = some (.cells esz rw c)) (hb : ρ n = some bi)
    (hl : c.gets o len = some l) (hn : byteNums l = some ns) : (loadCells ⟨bi.blk, bi.base + o, none⟩ len).run P w = .ok (ns.map (Value.int .u8)).toArray w := by
  obtain ⟨l', h1, h2⟩ := r.run_loadCells (P := P) hg hb hl
  have hl' := byteNums_eq hn
  have : l' = l := h2.flat_eq fun v hv => by rw [hl'] at hv; obtain ⟨k, _, rfl⟩ := List.mem_map.1 hv; rfl
  rw [h1, this, hl']
def strOf (ns : List Int) : ByteArray := ⟨(ns.map fun n => UInt8.ofNat n.toNat).toArray⟩
theorem strOf_eq (ns : List Int) : ns.foldl (fun r n => r.push (UInt8.ofNat n.toNat)) ByteArray.empty = strOf ns := by
  rw [foldl_push_bytes]
  simp [strOf, ByteArray.empty, ByteArray.emptyWithCapacity]
  rfl
def aconvert (P : Program) (h : AH) (src dst : TypeId) (x : Value) : Option Value :=
  match P.underlying src with
  | none => none
  | some S => match P.underlying dst with
    | none => none
    | some D => match D, x with
      | .int k, .int _ n => some (.int k (iwrap k n))
      | .string, .int _ n => some (.string (Utf8.encode n))
      | .string, .string s => some (.string s)
      | .string, .slice a len cap =>
        (match S with
         | .slice e => (match P.underlying e with
           | some (.int .u8) => (match abytes h (.slice a len cap) with | some ns => some (.string (strOf ns)) | none => none)
           | _ => none)
         | _ => none)
      | _, _ => none
theorem aconvert_sound (r : Rel X ρ h w) {src dst : TypeId} {x x' u : Value} (e : aconvert P h src dst x = some u) (hx : VR ρ x x') : (convert src dst x').run P w = .ok u w ∧ isFlat u = true := by
  unfold aconvert at e
  cases hs : P.underlying src with
  | none => simp [hs] at e
  | some S =>
    simp only [hs] at e
    cases hd : P.underlying dst with
    | none => simp [hd] at e
    | some D =>
      simp only [hd] at e
      split at e
      · rw [hx.flat_eq rfl]; simp only [iwrap_eq, Option.some.injEq] at e; subst e; exact ⟨by simp [convert, run_underlying hs, run_underlying hd, Conv.intToInt], rfl⟩
      · rw [hx.flat_eq rfl]; simp only [Option.some.injEq] at e; subst e; exact ⟨by simp [convert, run_underlying hs, run_underlying hd, Conv.intToString], rfl⟩
      · rw [hx.flat_eq rfl]; simp only [Option.some.injEq] at e; subst e; exact ⟨by simp [convert, run_underlying hs, run_underlying hd], rfl⟩
      · rename_i a len cap
        split at e
        · rename_i el
          split at e
          · rename_i hel
            cases hb : abytes h (.slice a len cap) with
            | none => simp [hb] at e
            | some ns =>
              simp only [hb, Option.some.injEq] at e; subst e
              refine ⟨?_, rfl⟩
              have hc : ∀ a' l' c', (convert src dst (.slice a' l' c')).run P w = (Conv.bytesToString (.slice a' l' c')).run P w := fun a' l' c' => run_convert_bytes_string w src dst el a' l' c' hs hel hd
              cases a with
              | none =>
                rw [hx.inv_sliceNone, hc]
                unfold abytes at hb
                simp only at hb
                cases hz : Nat.beq len 0 with
                | false => simp [hz] at hb
                | true => simp only [hz, cond_true, Option.some.injEq] at hb; subst hb; simp [Conv.bytesToString, strOf]; rfl
              | some a =>
                obtain ⟨n, o, sp⟩ := a
                obtain ⟨bi, off', cap', hbn, rfl, h1, h2, rfl, h3⟩ := hx.inv_sliceSome
                rw [hc]
                unfold abytes at hb
                simp only at hb
                have key : (loadCells ⟨bi.blk, off', none⟩ len).run P w = .ok (ns.map (Value.int .u8)).toArray w := by
                  cases hz : Nat.beq len 0 with
                  | true =>
                    simp only [hz, cond_true, Option.some.injEq] at hb; subst hb
                    have := beq_tt.1 hz; subst this; simp [loadCells, loadCellsFrom]
                  | false =>
                    simp only [hz, cond_false] at hb
                    have hlen := beq_ff.1 hz
                    have hoff : off' = bi.base + o := by rcases h3 with h3 | h3; · omega
                                                         · exact h3.1
                    split at hb
                    · rename_i hg
                      split at hb
                      · rename_i hgl; rw [hoff]; exact abytes_load r hg hbn hgl hb
                      · cases hb
                    · cases hb
                rw [run_bytesToString w _ _ _ ns key, strOf_eq]
          · cases e
        · cases e
      · cases e
/-! ### Structs and arrays by value -/
theorem VRL.setIf {a a' : Array Value} (ha : VRL ρ a.toList a'.toList) (i : Nat) {v v' : Value} (hv : VR ρ v v') : VRL ρ (a.setIfInBounds i v).toList (a'.setIfInBounds i v').toList := by
  have hl := ha.length
  refine VRL.ofGet (by simpa using hl) fun j u hj => ?_
  simp only [Array.getElem?_toList, Array.getElem?_setIfInBounds] at hj ⊢
  by_cases hij : i = j
  · subst hij
    rw [if_pos rfl] at hj ⊢
    by_cases hi : i < a.size
    · rw [if_pos hi] at hj; cases hj
      have : i < a'.size := by simp at hl; omega
      exact ⟨v', by rw [if_pos this], hv⟩
    · rw [if_neg hi] at hj; cases hj
  · rw [if_neg hij] at hj ⊢
    obtain ⟨u', h1, h2⟩ := ha.get j u (by simpa using hj)
    exact ⟨u', by simpa using h1, h2⟩
theorem fill_fold {off : Nat} : ∀ {cs cs' : List Value} {a a' : Array Value} (k : Nat), VRL ρ cs cs' → VRL ρ a.toList a'.toList →
    VRL ρ ((cs.zipIdx k).foldl (fun cs (c, j) => cs.setIfInBounds (off + j) c) a).toList ((cs'.zipIdx k).foldl (fun cs (c, j) => cs.setIfInBounds (off + j) c) a').toList
  | _, _, a, a', k, .nil, ha => by simpa using ha
  | _, _, a, a', k, .cons hv hl, ha => by
    simp only [List.zipIdx_cons, List.foldl_cons]
    exact fill_fold (k + 1) hl (ha.setIf _ hv)
inductive PL (ρ : Rho) : List (Nat × Value) → List (Nat × Value) → Prop
  | nil : PL ρ [] []
  | cons {i : Nat} {v v' : Value} {l l' : List (Nat × Value)} : VR ρ v v' → PL ρ l l' → PL ρ ((i, v) :: l) ((i, v') :: l')
theorem fill_rel {place : Nat → Option (Nat × Nat)} : ∀ {parts parts' : List (Nat × Value)} {a a' c : Array Value}, PL ρ parts parts' → VRL ρ a.toList a'.toList → Instr.fill place a parts = some c →
    ∃ c', Instr.fill place a' parts' = some c' ∧ VRL ρ c.toList c'.toList
  | _, _, a, a', c, .nil, ha, e => by simp only [Instr.fill, Option.some.injEq] at e ⊢; subst e; exact ⟨a', rfl, ha⟩
  | _, _, a, a', c, .cons (i := i) (v := v) (v' := v') hv hl, ha, e => by
    simp only [Instr.fill] at e ⊢
    cases hp : place i with
    | none => simp [hp] at e
    | some q =>
      obtain ⟨off, size⟩ := q
      simp only [hp] at e ⊢
      have hc := hv.cells
      have h1 : v'.cells.size = v.cells.size := by have := hc.length; simp at this; omega
      have h2 : a'.size = a.size := by have := ha.length; simp at this; omega
      rw [h1, h2]
      split at e
      · cases e
      · rename_i hn
        rw [if_neg hn]
        refine fill_rel hl ?_ e
        have key : ∀ (x : Array Value) (b : Array Value), x.zipIdx.foldl (fun cs (c, j) => cs.setIfInBounds (off + j) c) b = (x.toList.zipIdx 0).foldl (fun cs (c, j) => cs.setIfInBounds (off + j) c) b := by
          intro x b; rw [← Array.foldl_toList, Array.toList_zipIdx]
        have := fill_fold (off := off) 0 hc ha
        rw [← key, ← key] at this
        exact this
/-- Is a zero value one without names? -/
def zOk (z : Value) : Bool := isFlat z || (match z with | .agg cs => cs.toList.all isFlat | _ => false)
theorem VRL.flats : ∀ {l : List Value}, l.all isFlat = true → VRL ρ l l
  | [], _ => .nil
  | v :: l, hf => by simp only [List.all_cons, Bool.and_eq_true] at hf; exact .cons (.flat hf.1) (VRL.flats hf.2)
theorem zOk_rel {z : Value} (hz : zOk z = true) : VR ρ z z := by
  unfold zOk at hz
  cases hf : isFlat z with
  | true => exact .flat hf
  | false =>
    simp only [hf, Bool.false_or] at hz
    split at hz
    · exact .agg (VRL.flats hz)
    · cases hz
def azero (P : Program) (t : TypeId) : Option Value :=
  match P.info? t with
  | none => none
  | some i => match i.zero with
    | none => none
    | some z => bif zOk z then some z else none
theorem azero_sound {t : TypeId} {z : Value} (e : azero P t = some z) : (zeroValue t).run P w = .ok z w ∧ VR ρ z z ∧ ∃ i, P.info? t = some i ∧ i.zero = some z := by
  unfold azero at e
  cases hi : P.info? t with
  | none => simp [hi] at e
  | some i =>
    simp only [hi] at e
    cases hz : i.zero with
    | none => simp [hz] at e
    | some z' =>
      simp only [hz] at e
      cases hk : zOk z' with
      | false => simp [hk] at e
      | true => simp only [hk, cond_true, Option.some.injEq] at e; subst e; exact ⟨by simp [zeroValue, typeInfo, hi, hz], zOk_rel hk, i, rfl, hz⟩
def evps (f : Ev) : List (Nat × Operand) → Option (List (Nat × Value))
  | [] => some []
  | (i, x) :: l => match f x with
    | none => none
    | some v => match evps f l with
      | none => none
      | some r => some ((i, v) :: r)
theorem evps_sound {f : Ev} {g : Operand → Value} (hf : EvR ρ f g) : ∀ {l : List (Nat × Operand)} {r : List (Nat × Value)}, evps f l = some r → PL ρ r (l.map fun (i, x) => (i, g x))
  | [], r, e => by simp only [evps, Option.some.injEq] at e; subst e; exact .nil
  | (i, x) :: l, r, e => by
    simp only [evps] at e
    cases hx : f x with
    | none => simp [hx] at e
    | some v =>
      simp only [hx] at e
      cases hl : evps f l with
      | none => simp [hl] at e
      | some r' => simp only [hl, Option.some.injEq] at e; subst e; exact .cons (hf x v hx) (evps_sound hf hl)
/-- Parts that stand one behind the other. -/
def fillC (place : Nat → Option (Nat × Nat)) (n : Nat) : Nat → List (Nat × Value) → Option (List Value)
  | pos, [] => bif Nat.beq pos n then some [] else none
  | pos, (i, v) :: rest => match place i with
    | none => none
    | some (off, size) => bif Nat.beq off pos && Nat.beq v.cells.toList.length size then (match fillC place n (pos + size) rest with
      | none => none
      | some l => some (v.cells.toList ++ l)) else none
theorem sets_row (off : Nat) : ∀ (cs : List Value) (k : Nat) (a : Array Value), ((cs.zipIdx k).foldl (fun cs (c, j) => cs.setIfInBounds (off + j) c) a).size = a.size ∧
    ∀ j, ((cs.zipIdx k).foldl (fun cs (c, j) => cs.setIfInBounds (off + j) c) a)[j]? = if off + k ≤ j ∧ j < off + k + cs.length ∧ j < a.size then cs[j - (off + k)]? else a[j]?
  | [], k, a => ⟨rfl, fun j => by rw [if_neg (by simp only [List.length_nil]; omega)]; rfl⟩
  | c :: cs, k, a => by
    obtain ⟨h1, h2⟩ := sets_row off cs (k + 1) (a.setIfInBounds (off + k) c)
    simp only [List.zipIdx_cons, List.foldl_cons]
    refine ⟨by rw [h1]; simp, fun j => ?_⟩
    rw [h2 j]
    simp only [Array.size_setIfInBounds, List.length_cons]
    by_cases hj : j = off + k
    · subst hj
      rw [if_neg (by omega)]
      by_cases hs : off + k < a.size
      · rw [if_pos (by omega)]; simp [hs]
      · rw [if_neg (by omega)]; simp [hs]
    · rw [Array.getElem?_setIfInBounds_ne (by omega)]
      by_cases hin : off + (k + 1) ≤ j ∧ j < off + (k + 1) + cs.length ∧ j < a.size
      · rw [if_pos hin, if_pos (by omega)]
        obtain ⟨q, rfl⟩ : ∃ q, j = off + (k + 1) + q := ⟨j - (off + (k + 1)), by omega⟩
        rw [show off + (k + 1) + q - (off + (k + 1)) = q from by omega, show off + (k + 1) + q - (off + k) = q + 1 from by omega]; simp
      · rw [if_neg hin, if_neg (by omega)]
theorem fillC_len {place : Nat → Option (Nat × Nat)} {n : Nat} : ∀ {parts : List (Nat × Value)} {pos : Nat} {l : List Value}, fillC place n pos parts = some l → pos + l.length = n
  | [], pos, l, e => by
    simp only [fillC] at e
    cases hb : Nat.beq pos n with
    | false => rw [hb] at e; cases e
    | true => rw [hb] at e; cases e; simpa using beq_tt.1 hb
  | (i, v) :: rest, pos, l, e => by
    simp only [fillC] at e
    split at e
    · cases e
    · rename_i off size hp
      cases hb : (Nat.beq off pos && Nat.beq v.cells.toList.length size) with
      | false => rw [hb] at e; cases e
      | true =>
        rw [hb] at e
        simp only [Bool.and_eq_true] at hb
        have hsz := beq_tt.1 hb.2
        simp only [cond_true] at e
        split at e
        · cases e
        · rename_i l' hl
          cases e
          have := fillC_len hl
          simp only [List.length_append]; omega
theorem fillC_fill {place : Nat → Option (Nat × Nat)} {n : Nat} : ∀ {parts : List (Nat × Value)} {pos : Nat} {l : List Value}, fillC place n pos parts = some l → ∀ a : Array Value, a.size = n →
    ∃ c, Instr.fill place a parts = some c ∧ c.toList = a.toList.take pos ++ l
  | [], pos, l, e, a, ha => by
    simp only [fillC] at e
    cases hb : Nat.beq pos n with
    | false => rw [hb] at e; cases e
    | true =>
      rw [hb] at e; cases e
      have := beq_tt.1 hb
      exact ⟨a, rfl, by rw [List.append_nil, List.take_of_length_le (by simp; omega)]⟩
  | (i, v) :: rest, pos, l, e, a, ha => by
    simp only [fillC] at e
    split at e
    · cases e
    · rename_i off size hp
      cases hb : (Nat.beq off pos && Nat.beq v.cells.toList.length size) with
      | false => rw [hb] at e; cases e
      | true =>
        rw [hb] at e
        simp only [Bool.and_eq_true] at hb
        have hoff := beq_tt.1 hb.1
        have hsz := beq_tt.1 hb.2
        subst hoff
        simp only [cond_true] at e
        split at e
        · cases e
        · rename_i l' hl
          cases e
          have hlen := fillC_len hl
          have key : v.cells.zipIdx.foldl (fun cs (c, j) => cs.setIfInBounds (off + j) c) a = (v.cells.toList.zipIdx 0).foldl (fun cs (c, j) => cs.setIfInBounds (off + j) c) a := by
            rw [← Array.foldl_toList, Array.toList_zipIdx]
          obtain ⟨r1, r2⟩ := sets_row off v.cells.toList 0 a
          obtain ⟨c, q1, q2⟩ := fillC_fill hl ((v.cells.toList.zipIdx 0).foldl (fun cs (c, j) => cs.setIfInBounds (off + j) c) a) (by rw [r1, ha])
          refine ⟨c, ?_, ?_⟩
          · simp only [Instr.fill, hp]
            rw [if_neg (by simp at hsz; simp; omega), key]; exact q1
          · rw [q2, ← List.append_assoc]
            congr 1
            refine List.ext_getElem? fun j => ?_
            rw [List.getElem?_take, Array.getElem?_toList, r2 j]
            rw [List.getElem?_append]
            simp only [List.length_take, Array.length_toList, Nat.add_zero, List.getElem?_take, Array.getElem?_toList] at hsz ⊢
            have hmin : min off a.size = off := by omega
            rw [hmin]
            by_cases h1 : j < off
            · rw [if_pos (by omega), if_neg (by omega), if_pos h1, if_pos h1]
            · rw [if_neg h1]
              by_cases h2 : j < off + size
              · rw [if_pos h2, if_pos (by omega)]
              · rw [if_neg h2, Array.getElem?_eq_none (by omega)]
def abuildC (P : Program) (t : TypeId) (parts : List (Nat × Value)) : Option Value :=
  match P.info? t, P.underlying t with
  | some it, some (.array _ e) => (match it.zero, P.info? e with
    | some z, some ie => (match fillC (fun i => some (i * ie.size, ie.size)) z.cells.toList.length 0 parts with
      | some l => some (.agg l.toArray)
      | none => none)
    | _, _ => none)
  | some it, some (.struct fields) => (match it.zero, fields.toList.mapM (fun f => (P.info? f.type).map fun i => (f.offset, i.size)) with
    | some z, some places => (match fillC (places.toArray[·]?) z.cells.toList.length 0 parts with
      | some l => some (.agg l.toArray)
      | none => none)
    | _, _ => none)
  | _, _ => none
theorem abuildC_eq {t : TypeId} {parts : List (Nat × Value)} {u : Value} (e : abuildC P t parts = some u) : ∃ cs, P.built t parts = some cs ∧ u = .agg cs := by
  have fin : ∀ {place : Nat → Option (Nat × Nat)} {z : Value} {l : List Value}, fillC place z.cells.toList.length 0 parts = some l → Instr.fill place z.cells parts = some l.toArray := by
    intro place z l hl
    obtain ⟨c, q1, q2⟩ := fillC_fill hl z.cells (by simp)
    rw [q1]
    simp only [List.take_zero, List.nil_append] at q2
    rw [← q2]
  unfold abuildC at e
  unfold Program.built
  split at e
  · rename_i it n el h1 h2
    split at e
    · rename_i z ie hz hie
      split at e
      · rename_i l hl
        cases e
        exact ⟨l.toArray, by simp only [h1, h2, hz, hie]; exact fin hl, rfl⟩
      · cases e
    · cases e
  · rename_i it fs h1 h2
    split at e
    · rename_i z pl hz hpl
      split at e
      · rename_i l hl
        cases e
        exact ⟨l.toArray, by simp only [h1, h2, hz, hpl]; exact fin hl, rfl⟩
      · cases e
    · cases e
  · cases e
def abuild (P : Program) (t : TypeId) (parts : List (Nat × Value)) : Option Value :=
  match azero P t with
  | none => none
  | some _ => match abuildC P t parts with
    | some u => some u
    | none => match P.built t parts with
      | none => none
      | some cs => some (.agg cs)
theorem abuild_sound {t : TypeId} {parts : List (Nat × Value)} {parts' : Array (Nat × Value)} {u : Value} (e : abuild P t parts = some u) (hp : PL ρ parts parts'.toList) : ∃ u', (Instr.build t parts').run P w = .ok u' w ∧ VR ρ u u' := by
  unfold abuild at e
  cases hz : azero P t with
  | none => simp [hz] at e
  | some z =>
    simp only [hz] at e
    obtain ⟨_, hzz, i, hi, hiz⟩ := azero_sound (w := w) (ρ := ρ) hz
    have e' : (match P.built t parts with
      | none => none
      | some cs => some (.agg cs)) = some u := by
      split at e
      · rename_i u' hu; cases e
        obtain ⟨cs, q1, q2⟩ := abuildC_eq hu
        rw [q1, q2]
      · exact e
    clear e
    have e := e'
    cases hb : P.built t parts with
    | none => simp [hb] at e
    | some cs =>
      simp only [hb, Option.some.injEq] at e; subst e
      have : ∃ cs', P.built t parts'.toList = some cs' ∧ VRL ρ cs.toList cs'.toList := by
        unfold Program.built at hb ⊢
        cases hu : P.underlying t with
        | none => simp [hi, hu] at hb
        | some D =>
          cases D <;> simp only [hi, hu, reduceCtorEq] at hb ⊢
          case array n el =>
            simp only [hiz] at hb ⊢
            cases he : P.info? el with
            | none => simp [he] at hb
            | some ie => simp only [he] at hb ⊢; exact fill_rel hp hzz.cells hb
          case struct fs =>
            simp only [hiz] at hb ⊢
            cases he : fs.toList.mapM (fun f => (P.info? f.type).map fun i => (f.offset, i.size)) with
            | none => simp [he] at hb
            | some pl => simp only [he] at hb ⊢; exact fill_rel hp hzz.cells hb
      obtain ⟨cs', h1, h2⟩ := this
      exact ⟨.agg cs', run_build w t parts' cs' h1, .agg h2⟩
end
end Go.VII
