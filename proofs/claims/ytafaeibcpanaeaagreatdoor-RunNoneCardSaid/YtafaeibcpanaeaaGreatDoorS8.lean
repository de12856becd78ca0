/- RunNone's seat: the rows of the tables are right; run.New's contract in each case. -/
import Derived.Test.YtafaeibcpanaeaaGreatDoorS6a
import Derived.Test.YtafaeibcpanaeaaGreatDoorS6b
import Derived.Test.YtafaeibcpanaeaaGreatDoorS6c
import Derived.Test.YtafaeibcpanaeaaGreatDoorS6d
import Derived.Test.YtafaeibcpanaeaaGreatDoorS7t
namespace Go.VII.RN
noncomputable section
open Go.Proofs
set_option maxRecDepth 100000
noncomputable def symsOf (C F U K : Int) (A : BI) (n : Nat) : Option BI :=
  bif Nat.beq n cC then some (biOf C) else bif Nat.beq n cF then some (biOf F) else bif Nat.beq n cU then some (biOf U) else bif Nat.beq n cK then some (biOf K) else
  bif Nat.beq n cM then some (biOf (iwrap .i64 (8 * C))) else bif Nat.beq n cN then some (biOf (iwrap .i64 (12 * F))) else bif Nat.beq n cL then some (biOf (lenOf A : Int)) else
  bif Nat.beq n cA then some A else none
theorem symsOf_cases {C F U K : Int} {A : BI} {n : Nat} {bi : BI} (h : symsOf C F U K A n = some bi) : LIMIT ≤ n ∧ ((∃ z, bi = biOf z) ∨ bi = A) := by
  have lim : ∀ {c : Nat}, Nat.beq n c = true → LIMIT ≤ c → LIMIT ≤ n := fun h1 h2 => by rw [beq_tt.1 h1]; exact h2
  unfold symsOf at h
  cases hb : Nat.beq n cC with
  | true => rw [hb] at h; cases h; exact ⟨lim hb (by simp only [LIMIT, cC]; omega), .inl ⟨_, rfl⟩⟩
  | false =>
  rw [hb] at h; simp only [cond_false] at h
  cases hb : Nat.beq n cF with
  | true => rw [hb] at h; cases h; exact ⟨lim hb (by simp only [LIMIT, cF]; omega), .inl ⟨_, rfl⟩⟩
  | false =>
  rw [hb] at h; simp only [cond_false] at h
  cases hb : Nat.beq n cU with
  | true => rw [hb] at h; cases h; exact ⟨lim hb (by simp only [LIMIT, cU]; omega), .inl ⟨_, rfl⟩⟩
  | false =>
  rw [hb] at h; simp only [cond_false] at h
  cases hb : Nat.beq n cK with
  | true => rw [hb] at h; cases h; exact ⟨lim hb (by simp only [LIMIT, cK]; omega), .inl ⟨_, rfl⟩⟩
  | false =>
  rw [hb] at h; simp only [cond_false] at h
  cases hb : Nat.beq n cM with
  | true => rw [hb] at h; cases h; exact ⟨lim hb (by simp only [LIMIT, cM]; omega), .inl ⟨_, rfl⟩⟩
  | false =>
  rw [hb] at h; simp only [cond_false] at h
  cases hb : Nat.beq n cN with
  | true => rw [hb] at h; cases h; exact ⟨lim hb (by simp only [LIMIT, cN]; omega), .inl ⟨_, rfl⟩⟩
  | false =>
  rw [hb] at h; simp only [cond_false] at h
  cases hb : Nat.beq n cL with
  | true => rw [hb] at h; cases h; exact ⟨lim hb (by simp only [LIMIT, cL]; omega), .inl ⟨_, rfl⟩⟩
  | false =>
  rw [hb] at h; simp only [cond_false] at h
  cases hb : Nat.beq n cA with
  | true => rw [hb] at h; cases h; exact ⟨lim hb (by simp only [LIMIT, cA]; omega), .inr rfl⟩
  | false => rw [hb] at h; cases h
theorem symsOf_lim (C F U K : Int) (A : BI) (n : Nat) (bi : BI) (h : symsOf C F U K A n = some bi) : LIMIT ≤ n := (symsOf_cases h).1
noncomputable def gs (C F U K : Int) (A : BI) : GS := ⟨0, symsOf C F U K A, symsOf_lim C F U K A⟩
variable {C F U K : Int} {A : BI}
theorem concC : Conc (gs C F U K A) (.s cC) C := ⟨rfl, biOf C, rfl, numOf_biOf C⟩
theorem concF : Conc (gs C F U K A) (.s cF) F := ⟨rfl, biOf F, rfl, numOf_biOf F⟩
theorem concU : Conc (gs C F U K A) (.s cU) U := ⟨rfl, biOf U, rfl, numOf_biOf U⟩
theorem concM : Conc (gs C F U K A) (.s cM) (iwrap .i64 (8 * C)) := ⟨rfl, biOf _, rfl, numOf_biOf _⟩
theorem concN : Conc (gs C F U K A) (.s cN) (iwrap .i64 (12 * F)) := ⟨rfl, biOf _, rfl, numOf_biOf _⟩
theorem concL : Conc (gs C F U K A) (.s cL) (lenOf A : Int) := ⟨rfl, biOf _, rfl, numOf_biOf _⟩
theorem concI (G : GS) (z : Int) : Conc G (.i z) z := rfl
variable {G : GS}
theorem rowB {op : BinOp} {x y : SV} {a b : Int} {r : Bool} {k : Nat} (hk : k = opIdx op) (hx : Conc G x a) (hy : Conc G y b) (h : aint op .i64 a b = some (.bool r)) (n1 : op ≠ .shl) (n2 : op ≠ .shr) : RowOk G ⟨k, [x, y], .bool r⟩ :=
  .inl ⟨op, x, y, a, b, .bool r, hk, rfl, hx, hy, h, n1, n2, .inl ⟨rfl, rfl⟩⟩
theorem rowLss {x y : SV} {a b : Int} {r : Bool} (hx : Conc G x a) (hy : Conc G y b) (h : decide (a < b) = r) : RowOk G ⟨13, [x, y], .bool r⟩ := rowB (op := .lss) rfl hx hy (by rw [← h]; rfl) (by simp) (by simp)
theorem rowGtr {x y : SV} {a b : Int} {r : Bool} (hx : Conc G x a) (hy : Conc G y b) (h : decide (a > b) = r) : RowOk G ⟨15, [x, y], .bool r⟩ := rowB (op := .gtr) rfl hx hy (by rw [← h]; rfl) (by simp) (by simp)
theorem rowLeq {x y : SV} {a b : Int} {r : Bool} (hx : Conc G x a) (hy : Conc G y b) (h : decide (a ≤ b) = r) : RowOk G ⟨14, [x, y], .bool r⟩ := rowB (op := .leq) rfl hx hy (by rw [← h]; rfl) (by simp) (by simp)
theorem rowGeq {x y : SV} {a b : Int} {r : Bool} (hx : Conc G x a) (hy : Conc G y b) (h : decide (a ≥ b) = r) : RowOk G ⟨16, [x, y], .bool r⟩ := rowB (op := .geq) rfl hx hy (by rw [← h]; rfl) (by simp) (by simp)
theorem rowMul {x y : SV} {a b z : Int} {m : Nat} (hx : Conc G x a) (hy : Conc G y b) (hm : Conc G (.s m) z) (h : iwrap .i64 (a * b) = z) : RowOk G ⟨2, [x, y], sy m⟩ :=
  .inl ⟨.mul, x, y, a, b, .int .i64 z, rfl, rfl, hx, hy, by rw [← h]; rfl, by simp, by simp, .inr ⟨m, z, rfl, rfl, hm⟩⟩
theorem rowsLen_ok {b : Bool} (h : decide ((lenOf A : Int) > 30) = b) : ∀ t ∈ rowsLen b, RowOk (gs C F U K A) t := by
  intro t ht
  simp only [rowsLen, List.mem_cons, List.mem_nil_iff, or_false] at ht
  rcases ht with rfl | rfl
  · exact .inr ⟨rfl, cA, A, rfl, rfl, rfl, .inr ⟨cL, _, rfl, rfl, concL⟩⟩
  · exact rowGtr concL (concI _ _) h
theorem rowsU_ok {a b : Bool} (h1 : decide (U < 0) = a) (h2 : decide (U > 10000000) = b) : ∀ t ∈ rowsU a b, RowOk (gs C F U K A) t := by
  intro t ht
  simp only [rowsU, List.mem_cons, List.mem_nil_iff, or_false] at ht
  rcases ht with rfl | rfl
  · exact rowLss concU (concI _ _) h1
  · exact rowGtr concU (concI _ _) h2
theorem rowsC_ok {a b : Bool} (h1 : decide (C < 1) = a) (h2 : decide (C > 65536) = b) : ∀ t ∈ rowsC a b, RowOk (gs C F U K A) t := by
  intro t ht
  simp only [rowsC, List.mem_cons, List.mem_nil_iff, or_false] at ht
  rcases ht with rfl | rfl
  · exact rowLss concC (concI _ _) h1
  · exact rowGtr concC (concI _ _) h2
theorem rowsF_ok {a b : Bool} (h1 : decide (F < 1) = a) (h2 : decide (F > 10000) = b) : ∀ t ∈ rowsF a b, RowOk (gs C F U K A) t := by
  intro t ht
  simp only [rowsF, List.mem_cons, List.mem_nil_iff, or_false] at ht
  rcases ht with rfl | rfl
  · exact rowLss concF (concI _ _) h1
  · exact rowGtr concF (concI _ _) h2
theorem rowsN_ok {n m : Nat} {a z w : Int} (hn : Conc G (.s n) a) (hm : Conc G (.s m) w) (hz : iwrap .i64 (z * a) = w) (h0 : 0 ≤ w) (h1 : w ≤ 4194304) : ∀ t ∈ rowsN n m z, RowOk G t := by
  intro t ht
  simp only [rowsN, List.mem_cons, List.mem_nil_iff, or_false] at ht
  rcases ht with rfl | rfl | rfl
  · exact rowMul (concI _ _) hn hm hz
  · exact rowLss hm (concI _ _) (by simp; omega)
  · exact rowGtr hm (concI _ _) (by simp; omega)
theorem rowsCls_ok {m k : Nat} {w : Int} (hm : Conc G (.s m) w) (hlo : ∀ i, i < k → Int.ofNat (16 * 2 ^ i) < w) (hhi : w ≤ Int.ofNat (16 * 2 ^ k)) : ∀ t ∈ rowsCls m k, RowOk G t := by
  intro t ht
  simp only [rowsCls, List.mem_map, List.mem_range] at ht
  obtain ⟨i, hi, rfl⟩ := ht
  refine rowLss (concI _ _) hm ?_
  by_cases h : i < k
  · rw [(blt_iff _ _).2 h]; simpa using hlo i h
  · have hik : i = k := by omega
    subst hik
    have : Nat.blt i i = false := (blt_false _ _).2 (Nat.le_refl _)
    rw [this]; simp only [decide_eq_false_iff_not]; omega
theorem rowsT_ok {b1 b2 b3 b4 b5 b6 : Bool} (h1 : decide (C ≥ 1) = b1) (h2 : decide (C ≤ 65536) = b2) (h3 : decide (F ≥ 1) = b3) (h4 : decide (F ≤ 10000) = b4) (h5 : decide (U ≥ 0) = b5) (h6 : decide (U ≤ 10000000) = b6) :
    ∀ t ∈ rowsT b1 b2 b3 b4 b5 b6, RowOk (gs C F U K A) t := by
  intro t ht
  simp only [rowsT, List.mem_cons, List.mem_nil_iff, or_false] at ht
  rcases ht with rfl | rfl | rfl | rfl | rfl | rfl
  · exact rowGeq concC (concI _ _) h1
  · exact rowLeq concC (concI _ _) h2
  · exact rowGeq concF (concI _ _) h3
  · exact rowLeq concF (concI _ _) h4
  · exact rowGeq concU (concI _ _) h5
  · exact rowLeq concU (concI _ _) h6
theorem app_ok {T1 T2 : List TRow} (h1 : ∀ t ∈ T1, RowOk G t) (h2 : ∀ t ∈ T2, RowOk G t) : ∀ t ∈ T1 ++ T2, RowOk G t := fun t ht => (List.mem_append.1 ht).elim (h1 t) (h2 t)
/-- The class of a size. -/
theorem class_ex (m : Int) (n : Nat) (h : m ≤ Int.ofNat (16 * 2 ^ n)) : ∃ k, k ≤ n ∧ (∀ i, i < k → Int.ofNat (16 * 2 ^ i) < m) ∧ m ≤ Int.ofNat (16 * 2 ^ k) := by
  induction n with
  | zero => exact ⟨0, Nat.le_refl _, fun i hi => by omega, h⟩
  | succ n ih =>
    by_cases hn : m ≤ Int.ofNat (16 * 2 ^ n)
    · obtain ⟨k, h1, h2⟩ := ih hn
      exact ⟨k, by omega, h2⟩
    · refine ⟨n + 1, Nat.le_refl _, fun i hi => ?_, h⟩
      have hp : 2 ^ i ≤ 2 ^ n := Nat.pow_le_pow_right (by omega) (by omega)
      have : Int.ofNat (16 * 2 ^ i) ≤ Int.ofNat (16 * 2 ^ n) := by
        have : 16 * 2 ^ i ≤ 16 * 2 ^ n := Nat.mul_le_mul_left _ hp
        exact Int.ofNat_le.2 this
      omega
theorem iwrap_small {z : Int} (h0 : 0 ≤ z) (h1 : z ≤ 4194304) : iwrap .i64 z = z := by
  obtain ⟨m, rfl⟩ : ∃ m : Nat, z = Int.ofNat m := ⟨z.toNat, by simp only [Int.ofNat_eq_natCast]; omega⟩
  have : inKind .i64 (Int.ofNat m) = true := by
    simp only [inKind]
    rw [blt_iff]
    have h1' : (m : Int) ≤ 4194304 := h1
    omega
  unfold iwrap
  rw [this]; rfl
end
end Go.VII.RN
