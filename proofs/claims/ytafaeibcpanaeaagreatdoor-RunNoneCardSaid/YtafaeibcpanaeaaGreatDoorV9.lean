/- append, copy, clear; bytes of a string; a string that is ranged over; lengths. -/
import Derived.Test.YtafaeibcpanaeaaGreatDoorV8
namespace Go.VII
noncomputable section
variable {P : Program} {X : Cx} {ρ : Rho} {h : AH} {w : World}
theorem Rel.kill (r : Rel X ρ h w) (n : Nat) : Rel X ρ (h.kill n) w ∧ Ext ρ h w ρ (h.kill n) w := by
  have hk : ∀ m o, (h.kill n).get m = some o → h.get m = some o := by
    intro m o hm
    by_cases hmn : n = m
    · subst hmn
      by_cases hl : n < LIMIT
      · rw [AH.get_kill_same hl] at hm; cases hm
      · exact absurd (AH.get_lim hm) hl
    · rwa [AH.get_kill_ne hmn] at hm
  refine ⟨⟨fun m o hm => r.low m o (hk m o hm), fun m o bi hm ho hb => r.ro m o bi (hk m o hm) ho hb, r.dom, r.blk, r.glob, fun m o hm => r.objs m o (hk m o hm), fun m o bi hm ho hb => ?_⟩, ⟨fun _ _ hh => .inl hh, Rho.le_refl ρ, Nat.le_refl _, Nat.le_refl _, fun _ _ _ => rfl, fun b hb => ?_, rfl, rfl, rfl⟩⟩
  · obtain ⟨h1, h2⟩ := r.own m o bi (hk m o hm) ho hb
    exact ⟨h1, fun m' o' bj a b c => h2 m' o' bj (hk m' o' a) b c⟩
  · obtain ⟨m, o, bi, a, b, c, d⟩ := hb
    exact .inr ⟨m, o, bi, hk m o a, b, c, d⟩
def byteVals (s : ByteArray) : List Value := s.data.toList.map fun b => .int .u8 b.toNat
def alenOf : Value → Option Nat
  | .slice _ n _ => some n
  | .string s => some s.size
  | _ => none
def acellsOf (h : AH) (size n : Nat) : Value → Option (List Value)
  | .slice none _ _ => bif Nat.beq n 0 then some [] else none
  | .slice (some ⟨m, o, none⟩) _ _ => bif Nat.beq (n * size) 0 then some [] else
    (match h.get m with
     | some (.cells _ _ c) => c.gets o (n * size)
     | _ => none)
  | .string s => bif Nat.ble n s.size then some ((byteVals s).take n) else none
  | _ => none
theorem alenOf_sound {x x' : Value} {n : Nat} (e : alenOf x = some n) (hx : VR ρ x x') : ∀ w, (Builtin.lenOf x').run P w = .ok n w := by
  intro w
  unfold alenOf at e
  split at e
  · simp only [Option.some.injEq] at e; subst e
    obtain ⟨a', c', rfl, _⟩ := hx.inv_slice; rfl
  · simp only [Option.some.injEq] at e; subst e
    rw [hx.flat_eq rfl]; rfl
  · cases e
theorem VRL.flatsOf {l : List Value} (hf : ∀ v ∈ l, isFlat v = true) : VRL ρ l l := VRL.flats (List.all_eq_true.2 hf)
theorem acellsOf_sound (r : Rel X ρ h w) {size n k : Nat} {x x' : Value} {l : List Value} (e : acellsOf h size n x = some l) (hx : VR ρ x x') (hn : alenOf x = some k) (hnk : n ≤ k) :
    ∃ l', (∀ w', w'.heap = w.heap → (Builtin.firstCells size n x').run P w' = .ok l'.toArray w') ∧ VRL ρ l l' := by
  unfold acellsOf at e
  split at e
  · rw [hx.inv_sliceNone]
    cases hz : Nat.beq n 0 with
    | false => simp [hz] at e
    | true => simp only [hz, cond_true, Option.some.injEq] at e; subst e; exact ⟨[], fun w' _ => by simp [Builtin.firstCells], .nil⟩
  · rename_i m o len cap
    obtain ⟨bi, off', cap', hb, rfl, h1, h2, _, h3⟩ := hx.inv_sliceSome
    cases hz : Nat.beq (n * size) 0 with
    | true =>
      simp only [hz, cond_true, Option.some.injEq] at e; subst e
      have := beq_tt.1 hz
      exact ⟨[], fun w' _ => by simp [Builtin.firstCells, this, loadCells, loadCellsFrom], .nil⟩
    | false =>
      simp only [hz, cond_false] at e
      have hpos := beq_ff.1 hz
      simp only [alenOf, Option.some.injEq] at hn; subst hn
      have hoff : off' = bi.base + o := by
        rcases h3 with h3 | h3
        · have : n = 0 := by omega
          subst this; simp at hpos
        · exact h3.1
      split at e
      · rename_i c hg
        obtain ⟨l', g1, g2⟩ := r.run_loadCellsH (P := P) hg hb e
        refine ⟨l', fun w' hw' => ?_, g2⟩
        rw [hoff]
        simp only [Builtin.firstCells]
        exact g1 w' hw'
      · cases e
  · rename_i s
    rw [hx.flat_eq rfl]
    simp only [alenOf, Option.some.injEq] at hn; subst hn
    have hb : Nat.ble n s.size = true := by simpa using hnk
    simp only [hb, cond_true, Option.some.injEq] at e; subst e
    refine ⟨(byteVals s).take n, fun w' _ => ?_, VRL.flatsOf fun v hv => ?_⟩
    · simp only [Builtin.firstCells, Sem.run_pure, Result.ok.injEq, and_true]
      apply Array.ext'
      simp [byteVals]
    · have := List.mem_of_mem_take hv
      obtain ⟨b, _, rfl⟩ := List.mem_map.1 this; rfl
  · cases e
end
end Go.VII
