/- 'append(nil, make([]T, n)...)'; 'cap(nil)'. -/
import Derived.Test.YtafaeibcpanaeaaGreatDoorV11
import Derived.IntWalk
namespace Go.VII
noncomputable section
variable {P : Program} {X : Cx} {ρ : Rho} {h : AH} {w : World}
/-- 'append(nil, make([]T, n)...)': so many zeros. -/
def aappendZ (P : Program) (h : AH) (ats : Array TypeId) (s x : Value) : Option (Value × AH) :=
  match ats[0]?, ats[1]? with
  | some T, some t2 => (match P.underlying T, P.underlying t2 with
    | some (.slice elem), some (.int _) => (match P.info? elem, azero P elem with
      | some ie, some z => (match s, x with
        | .slice none sLen sCap, .int _ (.ofNat n) =>
          bif Nat.beq sLen 0 && Nat.beq sCap 0 && Nat.blt 0 n && Nat.ble n 65536 && Nat.ble (n * ie.bytes) 140737488355328 && Nat.beq z.cells.size ie.size && Nat.blt 0 ie.size then
            (match anew h ie.size (zrow z (n * ie.size)).toList with
              | none => none
              | some (m, h1) => some (.slice (some ⟨m, 0, none⟩) n n, h1)) else none
        | _, _ => none)
      | _, _ => none)
    | _, _ => none)
  | _, _ => none
theorem run_append_z {T t2 elem ty : TypeId} {k2 kk : IntKind} {ie : TypeInfo} {z : Value} {ats : Array TypeId} {n : Nat} (hat : ats[0]? = some T) (hat1 : ats[1]? = some t2) (hu : P.underlying T = some (.slice elem)) (hu2 : P.underlying t2 = some (.int k2))
    (hi : P.info? elem = some ie) (hz : ie.zero = some z) (h0 : 0 < n) (hn : n ≤ 65536) (hsz : 0 < ie.size) (hfit : n * ie.bytes ≤ 140737488355328) :
    (Builtin.append_ ats ty #[.slice none 0 0, .int kk (Int.ofNat n)]).run P w = .ok (.slice (some ⟨w.heap.size, 0, none⟩) n (grownCap w n 0 elem))
      (w.drew.alloc (.cells (#[] ++ Builtin.zeroCells z.cells n ++ Builtin.zeroCells z.cells (grownCap w n 0 elem - n)) elem)) := by
  have h1 : ¬ (0 + n ≤ 0) := by omega
  have h63' : ¬ (((0 + n : Nat) : Int) > IntKind.i64.max) := by rw [IntKind.max_i64]; omega
  have hgs := growslice_fits (need := 0 + n) (old := 0) (by omega) (by rw [Nat.zero_add]; exact hfit)
  have h48' : ¬ (Builtin.nextslicecap (0 + n) 0 * ie.bytes > 2 ^ 48) := by omega
  have hch : (choose (.appendCap (0 + n) 0 elem)).run P w = .ok (grownCap w n 0 elem) w.drew := by
    rw [run_choose, Nat.zero_add]; rfl
  have hw : IntKind.i64.wrap (Int.ofNat n) = (n : Int) := IntWalk.i64_in (n : Int) (by omega)
  have hneg : ¬ ((n : Int) < 0) := by omega
  have hbig : ¬ ((n : Int) * (ie.bytes : Int) > 2 ^ 48) := by
    rw [← Int.natCast_mul]
    generalize n * ie.bytes = q at hfit
    omega
  have hnz : ¬ (n * ie.size = 0) := by
    have := Nat.mul_pos h0 hsz
    omega
  unfold Builtin.append_
  simp only [hat, List.getElem?_toArray, List.getElem?_cons_zero, List.getElem?_cons_succ, Sem.run_bind, run_underlying hu, Result.andThen_ok, run_sizeOf hi, hat1, run_underlying hu2, Sem.run_pure, if_true, asInt, asIntOf, hw, hneg, if_false, typeInfo, run_program, hi,
    hbig, Int.toNat_natCast, h1, h63', h48', false_and, hch, run_askRoom, Builtin.firstCells, Bool.not_true, Bool.false_eq_true, hnz, zeroValue, hz, newRow, run_newObj]
  simp
  rfl
theorem aappendZ_sound {h1 : AH} (r : Rel X ρ h w) (hB : Room X w h1) {ats : Array TypeId} {ty : TypeId} {s s' x x' u : Value} (e : aappendZ P h ats s x = some (u, h1)) (hs : VR ρ s s') (hx : VR ρ x x') :
    Gives P X ρ h w (Builtin.append_ ats ty #[s', x']) u h1 := by
  unfold aappendZ at e
  split at e
  · rename_i T t2 hat hat1
    split at e
    · rename_i elem k2 hu hu2
      split at e
      · rename_i ie z hi hz
        split at e
        · rename_i sLen sCap kk n
          cases hb : (Nat.beq sLen 0 && Nat.beq sCap 0 && Nat.blt 0 n && Nat.ble n 65536 && Nat.ble (n * ie.bytes) 140737488355328 && Nat.beq z.cells.size ie.size && Nat.blt 0 ie.size) with
          | false => rw [hb] at e; cases e
          | true =>
            rw [hb] at e
            simp only [cond_true] at e
            simp only [Bool.and_eq_true, beq_tt, blt_iff, Nat.ble_eq] at hb
            obtain ⟨⟨⟨⟨⟨⟨rfl, rfl⟩, b3⟩, b4⟩, b5⟩, b6⟩, b7⟩ := hb
            split at e
            · cases e
            · rename_i m h2 hm
              simp only [Option.some.injEq, Prod.mk.injEq] at e
              obtain ⟨rfl, rfl⟩ := e
              rw [hs.flat_eq rfl, hx.flat_eq rfl]
              obtain ⟨_, hzz, i, hi2, hz2⟩ := azero_sound (w := w) (ρ := ρ) hz
              rw [hi] at hi2; cases hi2
              have hzo : zOk z = true := by
                unfold azero at hz
                simp only [hi, hz2] at hz
                cases hk : zOk z with
                | true => rfl
                | false => rw [hk] at hz; cases hz
              refine grown_row (n := n) (esz := ie.size) (len := n) (C := grownCap w n 0 elem) (old := #[]) (rest := Builtin.zeroCells z.cells (grownCap w n 0 elem - n)) (elem := elem) (l' := (zrow z (n * ie.size)).toList) r hB hm (zrow_rel hzo _ (.inr (by omega))) ?_ ?_ (grownCap_le _ _ _ _) rfl ?_ rfl
              · simp [zrow]
              · have := run_append_z (P := P) (w := w) (ty := ty) (kk := kk) hat hat1 hu hu2 hi hz2 b3 b4 b7 b5
                rw [this]
                have hzr : Builtin.zeroCells z.cells n = ((zrow z (n * ie.size)).toList).toArray := by
                  rw [Array.toArray_toList]
                  simp only [Builtin.zeroCells, zrow, b6]
                rw [hzr]
              · simp [Builtin.zeroCells, b6]
        · cases e
      · cases e
    · cases e
  · cases e
theorem aappendZ_next {ats : Array TypeId} {s x u : Value} {h1 : AH} (e : aappendZ P h ats s x = some (u, h1)) : ∃ esz n l, anew h esz l = some (n, h1) := by
  unfold aappendZ at e
  split at e
  · split at e
    · split at e
      · split at e
        · generalize (Nat.beq _ 0 && _ && _ && _ && _ && _ && _) = b at e
          cases b with
          | false => cases e
          | true =>
            simp only [cond_true] at e
            split at e
            · cases e
            · rename_i m h2 hm
              simp only [Option.some.injEq, Prod.mk.injEq] at e
              obtain ⟨_, rfl⟩ := e
              exact ⟨_, _, _, hm⟩
        · cases e
      · cases e
    · cases e
  · cases e
def acapN (P : Program) (ats : Array TypeId) (x : Value) : Option Value :=
  match ats[0]? with
  | some T => (match P.underlying T, x with
    | some (.slice _), .slice none len c => bif isFlat (.slice none len c) then some (.int .i64 (.ofNat c)) else none
    | _, _ => none)
  | none => none
theorem acapN_sound {ats : Array TypeId} {ty : TypeId} {x x' u : Value} (e : acapN P ats x = some u) (hx : VR ρ x x') : (Builtin.cap_ ats ty #[x']).run P w = .ok u w ∧ isFlat u = true := by
  unfold acapN at e
  split at e
  · rename_i T hat
    split at e
    · rename_i el len c hu
      cases hfl : isFlat (.slice none len c) with
      | false => rw [hfl] at e; cases e
      | true =>
      rw [hfl] at e
      simp only [cond_true, Option.some.injEq] at e; subst e
      rw [hx.flat_eq hfl]
      refine ⟨?_, rfl⟩
      unfold Builtin.cap_
      simp [hat, run_underlying hu, goInt]
    · cases e
  · cases e
end
end Go.VII
