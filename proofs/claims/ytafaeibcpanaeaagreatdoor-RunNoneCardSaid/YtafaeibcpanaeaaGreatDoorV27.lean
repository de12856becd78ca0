/- Unknown numbers and slices: the table. -/
import Derived.Test.YtafaeibcpanaeaaGreatDoorV26
namespace Go.VII
noncomputable section
variable {P : Program} {X : Cx} {ρ : Rho} {h : AH} {w : World} {ext : FuncId → Option Spec}
/-- What stands on one side: an unknown one, or a number. -/
inductive SV where
  | s (n : Nat)
  | i (z : Int)
def SV.is (x : SV) (v : Value) : Bool :=
  match x, v with
  | .s n, .chan (some m) => Nat.beq n m
  | .i z, .int .i64 y => decide (z = y)
  | _, _ => false
structure TRow where
  k : Nat
  l : List SV
  r : Value
def allIs : List SV → List Value → Bool
  | [], [] => true
  | x :: l, v :: m => x.is v && allIs l m
  | _, _ => false
def look (k : Nat) (l : List Value) : List TRow → Option Value
  | [] => none
  | t :: T => bif Nat.beq t.k k && allIs t.l l then some t.r else look k l T
theorem look_some {k : Nat} {l : List Value} {r : Value} : ∀ {T : List TRow}, look k l T = some r → ∃ t ∈ T, t.k = k ∧ allIs t.l l = true ∧ t.r = r
  | t :: T, e => by
    simp only [look] at e
    cases hb : (Nat.beq t.k k && allIs t.l l) with
    | true =>
      rw [hb] at e
      simp only [Bool.and_eq_true] at hb
      cases e
      exact ⟨t, by simp, beq_tt.1 hb.1, hb.2, rfl⟩
    | false =>
      rw [hb] at e
      obtain ⟨t', h1, h2⟩ := look_some (T := T) e
      exact ⟨t', by simp [h1], h2⟩
def extT (T : List TRow) (base : FuncId → Option Spec) (f : FuncId) : Option Spec :=
  bif Nat.ble SYMB f then some (fun l h => match look (Nat.sub f SYMB) l T with
    | some r => some (r, h)
    | none => none) else base f
theorem asym_extT {T : List TRow} {base : FuncId → Option Spec} {k : Nat} {l : List Value} {r : Value} (e : asym (extT T base) k l = some r) : look k l T = some r := by
  have h1 : extT T base (Nat.add SYMB k) = some (fun l h => match look (Nat.sub (Nat.add SYMB k) SYMB) l T with
    | some r => some (r, h)
    | none => none) := by
    have : Nat.ble SYMB (Nat.add SYMB k) = true := by rw [Nat.ble_eq]; exact Nat.le_add_right _ _
    simp only [extT, this, cond_true]
  have h2 : Nat.sub (Nat.add SYMB k) SYMB = k := by show SYMB + k - SYMB = k; omega
  simp only [asym, h1, h2] at e
  cases hl : look k l T with
  | none => simp [hl] at e
  | some r' => simpa [hl] using e
/-- An unknown number's worth. -/
def numOf (bi : BI) : Int := (bi.base : Int) - (bi.rsize : Int)
def biOf (z : Int) : BI := ⟨0, z.toNat, (-z).toNat, 0⟩
theorem numOf_biOf (z : Int) : numOf (biOf z) = z := by simp only [numOf, biOf]; omega
/-- An unknown slice's length (a nil one: base 0). -/
def lenOf (bi : BI) : Nat := match bi.base with
  | 0 => 0
  | _ + 1 => bi.rsize
/-- What stands there is the number z. -/
def Conc (G : GS) : SV → Int → Prop
  | .s n, z => Nat.beq (n % 2) 0 = true ∧ ∃ bi, G.s n = some bi ∧ numOf bi = z
  | .i y, z => y = z
theorem Conc.value {G : GS} {x : SV} {z : Int} (c : Conc G x z) {v v' : Value} (hi : x.is v = true) (hG : GlobOk G ρ) (hv : VR ρ v v') : v' = .int .i64 z := by
  unfold SV.is at hi
  split at hi
  · rename_i n m
    have := beq_tt.1 hi
    subst this
    obtain ⟨c1, bi, c2, c3⟩ := c
    have hr := hG.2 n bi c2
    cases hv with
    | flat hf => simp [isFlat] at hf
    | sym p q => rw [hr] at q; cases q; rw [← c3]; rfl
    | symS p q => rw [c1] at p; cases p
    | symN p q => rw [c1] at p; cases p
  · have : _ = _ := of_decide_eq_true hi
    subst this
    have c' : _ = z := c
    subst c'
    exact hv.flat_eq rfl
  · cases hi
/-- What comes of it: a plain value, or an unknown number of that worth. -/
def Res1 (G : GS) (r u : Value) : Prop := (r = u ∧ isFlat u = true) ∨ ∃ n z, r = .chan (some n) ∧ u = .int .i64 z ∧ Conc G (.s n) z
theorem Res1.rel {G : GS} {r u : Value} (h : Res1 G r u) (hG : GlobOk G ρ) : VR ρ r u := by
  rcases h with ⟨rfl, h⟩ | ⟨n, z, rfl, rfl, h1, bi, h2, h3⟩
  · exact .flat h
  · rw [← h3]; exact .sym h1 (hG.2 n bi h2)
/-- A row of the table is right. -/
def RowOk (G : GS) (t : TRow) : Prop :=
  (∃ op x y a b u, t.k = opIdx op ∧ t.l = [x, y] ∧ Conc G x a ∧ Conc G y b ∧ aint op .i64 a b = some u ∧ op ≠ .shl ∧ op ≠ .shr ∧ Res1 G t.r u) ∨
  (t.k = 50 ∧ ∃ n bi, t.l = [.s n] ∧ Nat.beq (n % 2) 0 = false ∧ G.s n = some bi ∧ Res1 G t.r (.int .i64 (lenOf bi)))
theorem opIdx_inj {a b : BinOp} (h : opIdx a = opIdx b) : a = b := by cases a <;> cases b <;> first | rfl | (simp [opIdx] at h)
theorem opIdx_lt (a : BinOp) : opIdx a < 17 := by cases a <;> simp [opIdx]
theorem SymOk.of {G : GS} {T : List TRow} {base : FuncId → Option Spec} (hT : ∀ t ∈ T, RowOk G t) : SymOk P G (extT T base) where
  b := fun op v u r e ρ w t xo yo v' u' hG hv hu => by
    obtain ⟨tr, h1, h2, h3, h4⟩ := look_some (asym_extT e)
    rcases hT tr h1 with ⟨op', x, y, a, b, res, q1, q2, q3, q4, q5, q6, q7, q8⟩ | ⟨q1, _⟩
    · have : op' = op := opIdx_inj (by rw [← q1, h2])
      subst this
      rw [q2] at h3
      simp only [allIs, Bool.and_true, Bool.and_eq_true] at h3
      have e1 := q3.value h3.1 hG hv
      have e2 := q4.value h3.2 hG hu
      subst e1; subst e2
      have ha : abin P op' t xo yo (.int .i64 a) (.int .i64 b) = some res := by
        unfold abin
        cases op' <;> first | exact absurd rfl q6 | exact absurd rfl q7 | simpa using q5
      obtain ⟨g1, _⟩ := abin_sound (w := w) (ρ := ρ) ha (.flat rfl) (.flat rfl)
      exact ⟨res, g1, by rw [← h4]; exact q8.rel hG⟩
    · have := opIdx_lt op; omega
  l := fun v r e ρ w ats ty cs v' T' el hT' hu hG hv => by
    obtain ⟨tr, h1, h2, h3, h4⟩ := look_some (asym_extT e)
    rcases hT tr h1 with ⟨op', x, y, a, b, res, q1, _⟩ | ⟨_, n, bi, q2, q3, q4, q5⟩
    · have := opIdx_lt op'; omega
    · rw [q2] at h3
      simp only [allIs, Bool.and_true] at h3
      unfold SV.is at h3
      split at h3
      · rename_i n' m hx
        cases hx
        have := beq_tt.1 h3
        subst this
        have hr := hG.2 _ bi q4
        cases hv with
        | flat hf => simp [isFlat] at hf
        | sym p q => rw [q3] at p; cases p
        | @symS _ blk off len cap p q =>
          rw [hr] at q; cases q
          refine ⟨.int .i64 len, ?_, by rw [← h4]; exact q5.rel hG⟩
          simp only [builtin]
          simp [Builtin.len_, hT', run_underlying hu, goInt]
        | symN p q =>
          rw [hr] at q; cases q
          refine ⟨.int .i64 0, ?_, by rw [← h4]; exact q5.rel hG⟩
          simp only [builtin]
          simp [Builtin.len_, hT', run_underlying hu, goInt]
      · rename_i hx; cases hx
      · cases h3
end
end Go.VII
