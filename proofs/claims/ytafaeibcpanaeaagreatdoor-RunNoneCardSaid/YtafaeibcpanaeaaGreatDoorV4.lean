/- More operations that turn nothing: addresses, slices, conversions, lookups, builtins. -/
import Derived.Test.YtafaeibcpanaeaaGreatDoorV3
namespace Go.VII
noncomputable section
variable {P : Program} {X : Cx} {ρ : Rho} {h : AH} {w : World}
/-! ### Addresses -/
def afieldAt (P : Program) (s : TypeId) (v : Value) (f : Nat) : Option Value :=
  match v with
  | .pointer (some ⟨n, o, none⟩) =>
    (match P.underlying s with
     | some (.struct fs) => (match fs[f]? with
       | none => none
       | some fd => (match P.info? fd.type with
         | none => none
         | some i => bif Nat.beq i.size 0 then none else some (.pointer (some ⟨n, o + fd.offset, none⟩))))
     | _ => none)
  | _ => none
theorem afieldAt_sound {s : TypeId} {v v' u : Value} {f : Nat} (e : afieldAt P s v f = some u) (hv : VR ρ v v') : ∃ u', (Instr.fieldAt s v' f).run P w = .ok u' w ∧ VR ρ u u' := by
  unfold afieldAt at e
  split at e
  · obtain ⟨bi, hb, rfl, _⟩ := hv.pointer
    split at e
    · rename_i fs hu
      cases hf : fs[f]? with
      | none => simp [hf] at e
      | some fd =>
        simp only [hf] at e
        cases hi : P.info? fd.type with
        | none => simp [hi] at e
        | some i =>
          simp only [hi] at e
          cases hz : Nat.beq i.size 0 with
          | true => simp [hz] at e
          | false =>
            simp only [hz, cond_false, Option.some.injEq] at e; subst e
            have hz' := beq_ff.1 hz
            refine ⟨.pointer (some ⟨bi.blk, bi.base + (_ + fd.offset), none⟩), ?_, .ptr hb⟩
            simp [Instr.fieldAt, run_underlying hu, hf, Instr.sureAddr, fieldPlace, run_sizeOf hi, hz', Addr.add_lit, Nat.add_assoc]
    · cases e
  · cases e
def afield (P : Program) (t : TypeId) (v : Value) (f : Nat) : Option Value :=
  match v with
  | .agg cs =>
    (match P.underlying t with
     | some (.struct fs) => (match fs[f]? with
       | none => none
       | some fd => apart P fd.type cs fd.offset)
     | _ => none)
  | _ => none
theorem afield_sound {s : TypeId} {v v' u : Value} {f : Nat} (e : afield P s v f = some u) (hv : VR ρ v v') : ∃ u', (Instr.field s v' f).run P w = .ok u' w ∧ VR ρ u u' := by
  unfold afield at e
  split at e
  · obtain ⟨cs', rfl, hc⟩ := hv.inv_agg
    split at e
    · rename_i fs hu
      cases hf : fs[f]? with
      | none => simp [hf] at e
      | some fd =>
        simp only [hf] at e
        obtain ⟨u', h1, h2⟩ := apart_sound (w := w) e hc
        exact ⟨u', by simp [Instr.field, run_underlying hu, hf, asAgg, h1], h2⟩
    · cases e
  · cases e
def aindexAt (P : Program) (t : TypeId) (v ix : Value) : Option Value :=
  match ix with
  | .int _ i =>
    (match P.underlying t with
     | some (.slice elem) => (match v with
       | .slice (some ⟨n, o, none⟩) len _ => if 0 ≤ i ∧ i < len then (match P.info? elem with
           | none => none
           | some ie => some (.pointer (some ⟨n, o + i.toNat * ie.size, none⟩))) else none
       | _ => none)
     | some (.array len elem) => (match v with
       | .pointer (some ⟨n, o, none⟩) => if 0 ≤ i ∧ i < len then (match P.info? elem with
           | none => none
           | some ie => some (.pointer (some ⟨n, o + i.toNat * ie.size, none⟩))) else none
       | _ => none)
     | _ => none)
  | _ => none
theorem aindexAt_sound {t : TypeId} {v v' ix ix' u : Value} (e : aindexAt P t v ix = some u) (hv : VR ρ v v') (hi : VR ρ ix ix') : ∃ u', (Instr.indexAt t v' ix').run P w = .ok u' w ∧ VR ρ u u' := by
  unfold aindexAt at e
  split at e
  · rename_i k i
    rw [hi.flat_eq rfl]
    split at e
    · rename_i elem hu
      split at e
      · rename_i n o len cap
        obtain ⟨bi, off', cap', hb, rfl, h1, h2, _, h3⟩ := hv.inv_sliceSome
        split at e
        · rename_i hin
          cases he : P.info? elem with
          | none => simp [he] at e
          | some ie =>
            simp only [he, Option.some.injEq] at e; subst e
            have hoff : off' = bi.base + o := by
              rcases h3 with h3 | h3
              · omega
              · exact h3.1
            subst hoff
            refine ⟨.pointer (some ⟨bi.blk, bi.base + (o + i.toNat * ie.size), none⟩), ?_, .ptr hb⟩
            simp [Instr.indexAt, asIntOf, run_underlying hu, hin, run_sizeOf he, Addr.add_lit, Nat.add_assoc]
        · cases e
      · cases e
    · rename_i len elem hu
      split at e
      · rename_i n o
        obtain ⟨bi, hb, rfl, _⟩ := hv.pointer
        split at e
        · rename_i hin
          cases he : P.info? elem with
          | none => simp [he] at e
          | some ie =>
            simp only [he, Option.some.injEq] at e; subst e
            refine ⟨.pointer (some ⟨bi.blk, bi.base + (o + i.toNat * ie.size), none⟩), ?_, .ptr hb⟩
            simp [Instr.indexAt, asIntOf, run_underlying hu, hin, run_sizeOf he, Addr.add_lit, Nat.add_assoc, Instr.sureAddr]
        · cases e
      · cases e
    · cases e
  · cases e
def aindex (P : Program) (t : TypeId) (v ix : Value) : Option Value :=
  match ix with
  | .int _ i =>
    (match P.underlying t with
     | some (.array len elem) => (match v with
       | .agg cs => if 0 ≤ i ∧ i < len then (match P.info? elem with
           | none => none
           | some ie => apart P elem cs (i.toNat * ie.size)) else none
       | _ => none)
     | some .string => (match v with
       | .string s => if 0 ≤ i then (match s.data.toList[i.toNat]? with
           | none => none
           | some b => some (.int .u8 b.toNat)) else none
       | _ => none)
     | _ => none)
  | _ => none
theorem bytes_get (s : ByteArray) (i : Nat) : s[i]? = s.data.toList[i]? := by
  by_cases hi : i < s.size
  · rw [getElem?_pos s i hi]
    have : i < s.data.toList.length := by simpa using hi
    rw [List.getElem?_eq_getElem this]; rfl
  · rw [getElem?_neg s i hi]
    rw [List.getElem?_eq_none (by simpa using hi)]
theorem aindex_sound {t : TypeId} {v v' ix ix' u : Value} (e : aindex P t v ix = some u) (hv : VR ρ v v') (hi : VR ρ ix ix') : ∃ u', (Instr.index t v' ix').run P w = .ok u' w ∧ VR ρ u u' := by
  unfold aindex at e
  split at e
  · rename_i k i
    rw [hi.flat_eq rfl]
    split at e
    · rename_i len elem hu
      split at e
      · obtain ⟨cs', rfl, hc⟩ := hv.inv_agg
        split at e
        · rename_i hin
          cases he : P.info? elem with
          | none => simp [he] at e
          | some ie =>
            simp only [he] at e
            obtain ⟨u', h1, h2⟩ := apart_sound (w := w) e hc
            exact ⟨u', by simp [Instr.index, asIntOf, run_underlying hu, hin, run_sizeOf he, h1], h2⟩
        · cases e
      · cases e
    · rename_i hu
      split at e
      · rename_i s
        rw [hv.flat_eq rfl]
        split at e
        · rename_i h0
          cases hb : s.data.toList[i.toNat]? with
          | none => simp [hb] at e
          | some b =>
            simp only [hb, Option.some.injEq] at e; subst e
            refine ⟨.int .u8 b.toNat, ?_, .flat rfl⟩
            have hb' : s[i.toNat]? = some b := by rw [bytes_get]; exact hb
            simp [Instr.index, asIntOf, run_underlying hu, h0, hb']
        · cases e
      · cases e
    · cases e
  · cases e
/-! ### Slices -/
def abound (y : Nat) : Value → Option Nat
  | .int _ i => if 0 ≤ i ∧ i ≤ y then some i.toNat else none
  | _ => none
theorem abound_sound {y l : Nat} {v : Value} {code : BoundsCode} (e : abound y v = some l) : (Instr.sliceBound v y code).run P w = .ok l w ∧ l ≤ y := by
  unfold abound at e
  split at e
  · split at e
    · rename_i hb; simp only [Option.some.injEq] at e; subst e; exact ⟨by simp [Instr.sliceBound, asIntOf, hb], by omega⟩
    · cases e
  · cases e
theorem abound_int {y l : Nat} {v v' : Value} (e : abound y v = some l) (hv : VR ρ v v') : v' = v := by
  unfold abound at e
  split at e
  · exact hv.flat_eq rfl
  · cases e
/-- The low and the high bound of a slice. -/
def abounds (len cap : Nat) (lo hi : Option Value) : Option (Nat × Nat) :=
  match (match hi with | some v => abound cap v | none => some len) with
  | none => none
  | some hv => match (match lo with | some v => abound hv v | none => some 0) with
    | none => none
    | some l => some (l, hv)
theorem abounds_sound {len cap cap' : Nat} {lo hi : Option Value} {l x : Nat} {lo' hi' : Option Value} {b : Bool} (e : abounds len cap lo hi = some (l, x)) (hlen : len ≤ cap) (hcap : cap ≤ cap')
    (hlo : lo' = lo) (hhi : hi' = hi) : (Instr.sliceBounds b len cap' lo' hi' none).run P w = .ok (l, x, cap') w ∧ l ≤ x ∧ x ≤ cap := by
  subst hlo; subst hhi
  unfold abounds at e
  have mono : ∀ {v : Value} {y z k : Nat}, abound y v = some k → y ≤ z → abound z v = some k := by
    intro v y z k hk hy
    unfold abound at hk ⊢
    split at hk
    · split at hk
      · rename_i hb; rw [if_pos ⟨hb.1, by omega⟩]; exact hk
      · cases hk
    · cases hk
  cases hi' with
  | none =>
    simp only at e
    cases lo' with
    | none => simp only [Option.some.injEq, Prod.mk.injEq] at e; obtain ⟨rfl, rfl⟩ := e; exact ⟨by simp [Instr.sliceBounds], by omega, hlen⟩
    | some v =>
      cases hv : abound len v with
      | none => simp [hv] at e
      | some k =>
        simp only [hv, Option.some.injEq, Prod.mk.injEq] at e; obtain ⟨rfl, rfl⟩ := e
        have := abound_sound (P := P) (w := w) (code := .sliceB) hv
        exact ⟨by simp [Instr.sliceBounds, this.1], this.2, hlen⟩
  | some v =>
    simp only at e
    cases hv : abound cap v with
    | none => simp [hv] at e
    | some y =>
      simp only [hv] at e
      have h1 := fun code => abound_sound (P := P) (w := w) (code := code) (mono hv hcap)
      have h2 := (abound_sound (P := P) (w := w) (code := .sliceB) hv).2
      cases lo' with
      | none => simp only [Option.some.injEq, Prod.mk.injEq] at e; obtain ⟨rfl, rfl⟩ := e; exact ⟨by simp [Instr.sliceBounds, (h1 _).1], by omega, h2⟩
      | some u =>
        cases hu : abound y u with
        | none => simp [hu] at e
        | some k =>
          simp only [hu, Option.some.injEq, Prod.mk.injEq] at e; obtain ⟨rfl, rfl⟩ := e
          have := abound_sound (P := P) (w := w) (code := .sliceB) hu
          exact ⟨by simp [Instr.sliceBounds, (h1 _).1, this.1], this.2, h2⟩
def aesz (h : AH) (n : Nat) : Option Nat :=
  match h.get n with
  | some (.cells esz _ _) => some esz
  | _ => none
theorem aesz_sound (r : Rel X ρ h w) {n esz : Nat} (e : aesz h n = some esz) {bi : BI} (hb : ρ n = some bi) : bi.esz = esz := by
  unfold aesz at e
  split at e
  · rename_i hg; simp only [Option.some.injEq] at e; subst e; exact (r.cellsAt hg hb).1
  · cases e
def asl (P : Program) (h : AH) (t : TypeId) (v : Value) (lo hi : Option Value) : Option Value :=
  match P.underlying t with
  | some .string => (match v with
    | .string s => (match abounds s.size s.size lo hi with
      | none => none
      | some (l, x) => some (.string (s.extract l x)))
    | _ => none)
  | some (.slice elem) => (match v with
    | .slice none len cap => (match abounds len cap lo hi with
      | none => none
      | some _ => (match P.info? elem with
        | none => none
        | some _ => bif Nat.beq cap 0 then some (.slice none 0 0) else none))
    | .slice (some ⟨n, o, none⟩) len cap => (match abounds len cap lo hi with
      | none => none
      | some (l, x) => (match aesz h n with
        | none => none
        | some esz => (match P.info? elem with
          | none => none
          | some ie => bif Nat.beq esz 0 || Nat.beq esz ie.size then some (.slice (some ⟨n, o + l * ie.size, none⟩) (x - l) (cap - l)) else none)))
    | _ => none)
  | some (.array k elem) => (match v with
    | .pointer (some ⟨n, o, none⟩) => (match abounds k k lo hi with
      | none => none
      | some (l, x) => (match aesz h n with
        | none => none
        | some esz => (match P.info? elem with
          | none => none
          | some ie => bif Nat.beq esz 0 then some (.slice (some ⟨n, o + l * ie.size, none⟩) (x - l) (k - l)) else none)))
    | _ => none)
  | _ => none
theorem VR.slice_le {a : Option Addr} {len cap : Nat} {v' : Value} (h : VR ρ (.slice a len cap) v') : len ≤ cap := by
  cases h with
  | flat hf => cases a with
    | none => simp only [isFlat, Bool.and_eq_true, beq_tt] at hf; omega
    | some a => simp [isFlat] at hf
  | slice _ b _ _ => exact b
theorem asl_sound (r : Rel X ρ h w) {t : TypeId} {v v' u : Value} {lo hi lo' hi' : Option Value} (e : asl P h t v lo hi = some u) (hv : VR ρ v v') (hlo : lo' = lo) (hhi : hi' = hi) :
    ∃ u', (Instr.sliceAt t v' lo' hi' none).run P w = .ok u' w ∧ VR ρ u u' := by
  unfold asl at e
  split at e
  · rename_i hu
    split at e
    · rename_i s
      rw [hv.flat_eq rfl]
      cases hb : abounds s.size s.size lo hi with
      | none => simp [hb] at e
      | some p =>
        obtain ⟨l, x⟩ := p
        simp only [hb, Option.some.injEq] at e; subst e
        have := abounds_sound (P := P) (w := w) (b := false) hb (Nat.le_refl _) (Nat.le_refl _) hlo hhi
        exact ⟨.string (s.extract l x), by simp [Instr.sliceAt, Instr.slice, run_underlying hu, this.1], .flat rfl⟩
    · cases e
  · rename_i elem hu
    split at e
    · rename_i len cap
      have hlc := hv.slice_le
      rw [hv.inv_sliceNone]
      cases hb : abounds len cap lo hi with
      | none => simp [hb] at e
      | some p =>
        obtain ⟨l, x⟩ := p
        simp only [hb] at e
        cases hie : P.info? elem with
        | none => simp [hie] at e
        | some ie =>
          simp only [hie] at e
          cases hz : Nat.beq cap 0 with
          | false => simp [hz] at e
          | true =>
            simp only [hz, cond_true, Option.some.injEq] at e; subst e
            have hz' := beq_tt.1 hz
            have := abounds_sound (P := P) (w := w) (b := true) hb hlc (Nat.le_refl _) hlo hhi
            have hl0 : l = 0 := by omega
            have hx0 : x = 0 := by omega
            subst hz'; subst hl0; subst hx0
            exact ⟨.slice none 0 0, by simp [Instr.sliceAt, Instr.slice, run_underlying hu, this.1, run_sizeOf hie], .flat rfl⟩
    · rename_i n o len cap
      obtain ⟨bi, off', cap', hb, rfl, h1, h2, _, h3⟩ := hv.inv_sliceSome
      cases hbo : abounds len cap lo hi with
      | none => simp [hbo] at e
      | some p =>
        obtain ⟨l, x⟩ := p
        simp only [hbo] at e
        cases hes : aesz h n with
        | none => simp [hes] at e
        | some esz =>
          simp only [hes] at e
          cases hie : P.info? elem with
          | none => simp [hie] at e
          | some ie =>
            simp only [hie] at e
            cases hq : (Nat.beq esz 0 || Nat.beq esz ie.size) with
            | false => simp [hq] at e
            | true =>
              simp only [hq, cond_true, Option.some.injEq] at e; subst e
              obtain ⟨g1, g2, g3⟩ := abounds_sound (P := P) (w := w) (b := true) hbo h1 h2 hlo hhi
              have hez := aesz_sound r hes hb
              refine ⟨.slice (some (if cap' = l then ⟨bi.blk, off', none⟩ else ⟨bi.blk, off' + l * ie.size, none⟩)) (x - l) (cap' - l), ?_, ?_⟩
              · by_cases hcl : cap' = l
                · subst hcl; simp [Instr.sliceAt, Instr.slice, run_underlying hu, g1, run_sizeOf hie]
                · simp [Instr.sliceAt, Instr.slice, run_underlying hu, g1, run_sizeOf hie, hcl, Addr.add_lit]
              · by_cases hcl : cap' = l
                · rw [if_pos hcl]
                  exact .slice hb (by omega) (by omega) (.inl (by omega))
                · rw [if_neg hcl]
                  refine .slice hb (by omega) (by omega) (.inr ?_)
                  rcases h3 with h3 | ⟨h3, h4⟩
                  · omega
                  · refine ⟨by omega, fun hpos => ?_⟩
                    have h5 := h4 hpos
                    simp only [Bool.or_eq_true, beq_tt] at hq
                    have : esz = ie.size := by omega
                    rw [← this, ← hez, Nat.sub_mul]
                    have : l * bi.esz ≤ cap' * bi.esz := Nat.mul_le_mul_right _ (by omega)
                    omega
    · cases e
  · rename_i k elem hu
    split at e
    · rename_i n o
      obtain ⟨bi, hb, rfl, _⟩ := hv.pointer
      cases hbo : abounds k k lo hi with
      | none => simp [hbo] at e
      | some p =>
        obtain ⟨l, x⟩ := p
        simp only [hbo] at e
        cases hes : aesz h n with
        | none => simp [hes] at e
        | some esz =>
          simp only [hes] at e
          cases hie : P.info? elem with
          | none => simp [hie] at e
          | some ie =>
            simp only [hie] at e
            cases hq : Nat.beq esz 0 with
            | false => simp [hq] at e
            | true =>
              simp only [hq, cond_true, Option.some.injEq] at e; subst e
              obtain ⟨g1, g2, g3⟩ := abounds_sound (P := P) (w := w) (b := false) hbo (Nat.le_refl _) (Nat.le_refl _) hlo hhi
              have hez := aesz_sound r hes hb
              refine ⟨.slice (some (if k = l then ⟨bi.blk, bi.base + o, none⟩ else ⟨bi.blk, bi.base + o + l * ie.size, none⟩)) (x - l) (k - l), ?_, ?_⟩
              · by_cases hcl : k = l
                · subst hcl; simp [Instr.sliceAt, run_underlying hu, g1, run_sizeOf hie, Instr.sureAddr]
                · simp [Instr.sliceAt, run_underlying hu, g1, run_sizeOf hie, hcl, Addr.add_lit, Instr.sureAddr]
              · have hes0 := beq_tt.1 hq
                by_cases hcl : k = l
                · rw [if_pos hcl]
                  exact .slice hb (by omega) (by omega) (.inl (by omega))
                · rw [if_neg hcl]
                  exact .slice hb (by omega) (by omega) (.inr ⟨by omega, fun hpos => by omega⟩)
    · cases e
  · cases e
end
end Go.VII
