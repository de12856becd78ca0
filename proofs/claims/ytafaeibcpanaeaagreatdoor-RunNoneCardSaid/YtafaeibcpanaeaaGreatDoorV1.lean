/- A heap of names, and how it stands to the model's world: tries, cells, the relation between values, and the three ways in which a world goes on. -/
import Derived.Laws.Sem
import Derived.Laws.World
import Derived.Calls
namespace Go.VII
noncomputable section
/-! ### Tries -/
theorem beq_ff {a b : Nat} : Nat.beq a b = false ↔ a ≠ b := by
  rw [← Bool.not_eq_true, Nat.beq_eq]
theorem beq_tt {a b : Nat} : Nat.beq a b = true ↔ a = b := by rw [Nat.beq_eq]
inductive Tr (α : Type) where
  | nil
  | one (j : Nat) (a : α)
  | node (l r : Tr α)
noncomputable def Tr.get {α : Type} (d : Nat) (t : Tr α) (k : Nat) : Option α :=
  Tr.rec (motive := fun _ => Nat → Nat → Option α)
    (fun _ _ => none)
    (fun j a d k => Bool.rec (motive := fun _ => Option α) none (Bool.rec (motive := fun _ => Option α) none (some a) (Nat.ble (Nat.succ k) (Nat.pow 2 d))) (Nat.beq j k))
    (fun _ _ il ir d k => Nat.rec (motive := fun _ => Option α) none (fun d' _ => Bool.rec (motive := fun _ => Option α) (ir d' (Nat.div k 2)) (il d' (Nat.div k 2)) (Nat.beq (Nat.mod k 2) 0)) d)
    t d k
def Tr.lft {α : Type} : Tr α → Tr α
  | .node l _ => l
  | .one j a => bif Nat.beq (j % 2) 0 then .one (j / 2) a else .nil
  | _ => .nil
def Tr.rgt {α : Type} : Tr α → Tr α
  | .node _ r => r
  | .one j a => bif Nat.beq (j % 2) 0 then .nil else .one (j / 2) a
  | _ => .nil
def Tr.single {α : Type} (k : Nat) : Option α → Tr α
  | some a => .one k a
  | none => .nil
noncomputable def Tr.set {α : Type} (d : Nat) (t : Tr α) (k : Nat) (v : Option α) : Tr α :=
  Nat.rec (motive := fun _ => Tr α → Nat → Option α → Tr α)
    (fun t k v => Bool.rec (motive := fun _ => Tr α) t (Tr.single 0 v) (Nat.beq k 0))
    (fun _ ih t => Tr.rec (motive := fun _ => Nat → Option α → Tr α)
      (fun k v => Tr.single k v)
      (fun j b k v => Bool.rec (motive := fun _ => Tr α)
        (Bool.rec (motive := fun _ => Tr α)
          (.node (Bool.rec (motive := fun _ => Tr α) .nil (.one (Nat.div j 2) b) (Nat.beq (Nat.mod j 2) 0)) (ih (Bool.rec (motive := fun _ => Tr α) (.one (Nat.div j 2) b) .nil (Nat.beq (Nat.mod j 2) 0)) (Nat.div k 2) v))
          (.node (ih (Bool.rec (motive := fun _ => Tr α) .nil (.one (Nat.div j 2) b) (Nat.beq (Nat.mod j 2) 0)) (Nat.div k 2) v) (Bool.rec (motive := fun _ => Tr α) (.one (Nat.div j 2) b) .nil (Nat.beq (Nat.mod j 2) 0)))
          (Nat.beq (Nat.mod k 2) 0))
        (Tr.single k v)
        (Nat.beq j k))
      (fun l r _ _ k v => Bool.rec (motive := fun _ => Tr α) (.node l (ih r (Nat.div k 2) v)) (.node (ih l (Nat.div k 2) v) r) (Nat.beq (Nat.mod k 2) 0))
      t)
    d t k v
theorem cond_rec {α : Type} (b : Bool) (x y : α) : (bif b then x else y) = Bool.rec (motive := fun _ => α) y x b := by cases b <;> rfl
theorem Tr.get_def {α : Type} (d : Nat) (t : Tr α) (k : Nat) : Tr.get d t k = match t with
  | .nil => none
  | .one j a => bif Nat.beq j k then (bif Nat.blt k (Nat.pow 2 d) then some a else none) else none
  | .node l r => match d with
    | 0 => none
    | d + 1 => bif Nat.beq (k % 2) 0 then Tr.get d l (k / 2) else Tr.get d r (k / 2) := by
  cases t with
  | nil => rfl
  | one j a => simp only [cond_rec]; rfl
  | node l r => cases d with
    | zero => rfl
    | succ d => simp only [cond_rec]; rfl
theorem Tr.set_zero {α : Type} (t : Tr α) (k : Nat) (v : Option α) : Tr.set 0 t k v = bif Nat.beq k 0 then Tr.single 0 v else t := by
  simp only [cond_rec]; rfl
theorem Tr.set_nil {α : Type} (d k : Nat) (v : Option α) : Tr.set (d + 1) (.nil : Tr α) k v = Tr.single k v := rfl
theorem Tr.set_one {α : Type} (d j k : Nat) (b : α) (v : Option α) : Tr.set (d + 1) (.one j b) k v = bif Nat.beq j k then Tr.single k v else
    bif Nat.beq (k % 2) 0 then .node (Tr.set d (Tr.one j b).lft (k / 2) v) (Tr.one j b).rgt else .node (Tr.one j b).lft (Tr.set d (Tr.one j b).rgt (k / 2) v) := by
  simp only [cond_rec, Tr.lft, Tr.rgt]; rfl
theorem Tr.set_node {α : Type} (d k : Nat) (l r : Tr α) (v : Option α) : Tr.set (d + 1) (.node l r) k v = bif Nat.beq (k % 2) 0 then .node (Tr.set d l (k / 2) v) r else .node l (Tr.set d r (k / 2) v) := by
  simp only [cond_rec]; rfl
theorem Tr.get_nil {α : Type} (d k : Nat) : Tr.get d (.nil : Tr α) k = none := by rw [Tr.get_def]
theorem Tr.get_one {α : Type} (d j k : Nat) (a : α) : Tr.get d (.one j a) k = if j = k ∧ k < 2 ^ d then some a else none := by
  rw [Tr.get_def]
  simp only
  by_cases h : j = k
  · subst h
    by_cases h2 : j < 2 ^ d
    · have hb : Nat.blt j (Nat.pow 2 d) = true := by simp only [Nat.blt, Nat.ble_eq]; exact h2
      rw [beq_tt.2 rfl, hb]; simp [h2]
    · have hb : Nat.blt j (Nat.pow 2 d) = false := by
        rw [Bool.eq_false_iff]; intro hh; simp only [Nat.blt, Nat.ble_eq] at hh; exact h2 hh
      rw [beq_tt.2 rfl, hb]; simp [h2]
  · have hb : Nat.beq j k = false := beq_ff.2 h
    simp [h, hb]
theorem Tr.get_single {α : Type} (d j k : Nat) (v : Option α) : Tr.get d (Tr.single j v) k = if j = k ∧ k < 2 ^ d then v else none := by
  cases v with
  | none => simp [Tr.single, Tr.get_nil]
  | some a => simp only [Tr.single, Tr.get_one]
theorem Tr.get_succ {α : Type} (d : Nat) (t : Tr α) (k : Nat) : Tr.get (d + 1) t k = if k % 2 = 0 then Tr.get d t.lft (k / 2) else Tr.get d t.rgt (k / 2) := by
  have hp : k < 2 ^ (d + 1) ↔ k / 2 < 2 ^ d := by rw [Nat.pow_succ]; omega
  cases t with
  | nil => simp [Tr.lft, Tr.rgt, Tr.get_nil]
  | one j a =>
    rw [Tr.get_one]
    by_cases hj : j % 2 = 0
    · have hb : Nat.beq (j % 2) 0 = true := beq_tt.2 hj
      simp only [Tr.lft, Tr.rgt, hb, cond_true, Tr.get_one, Tr.get_nil]
      by_cases hk : k % 2 = 0
      · simp only [hk, if_true]
        have : (j = k ∧ k < 2 ^ (d + 1)) ↔ (j / 2 = k / 2 ∧ k / 2 < 2 ^ d) := by rw [hp]; constructor <;> rintro ⟨h1, h2⟩ <;> exact ⟨by omega, h2⟩
        simp only [this]
      · simp only [hk, if_false]
        rw [if_neg (fun h => hk (by rw [← h.1]; exact hj))]
    · have hb : Nat.beq (j % 2) 0 = false := beq_ff.2 hj
      simp only [Tr.lft, Tr.rgt, hb, cond_false, Tr.get_one, Tr.get_nil]
      by_cases hk : k % 2 = 0
      · simp only [hk, if_true]
        rw [if_neg (fun h => hj (by rw [h.1]; exact hk))]
      · simp only [hk, if_false]
        have : (j = k ∧ k < 2 ^ (d + 1)) ↔ (j / 2 = k / 2 ∧ k / 2 < 2 ^ d) := by rw [hp]; constructor <;> rintro ⟨h1, h2⟩ <;> exact ⟨by omega, h2⟩
        simp only [this]
  | node l r =>
    conv => lhs; rw [Tr.get_def]
    by_cases h : k % 2 = 0
    · simp [Tr.lft, h]
    · have hb : Nat.beq (k % 2) 0 = false := beq_ff.2 h
      simp [Tr.rgt, h, hb]
/-- What 'set' comes to. -/
theorem Tr.get_set_succ {α : Type} (v : Option α) (d : Nat) (t : Tr α) (k j : Nat) (same : ∀ (t : Tr α) (k : Nat), k < 2 ^ d → Tr.get d (Tr.set d t k v) k = v) (ne : ∀ (t : Tr α) (k j : Nat), k ≠ j → Tr.get d (Tr.set d t k v) j = Tr.get d t j) (hk : k < 2 ^ (d + 1) ∨ k ≠ j) :
    Tr.get (d + 1) (Tr.set (d + 1) t k v) j = if k = j then v else Tr.get (d + 1) t j := by
  have go : Tr.get (d + 1) (bif Nat.beq (k % 2) 0 then .node (Tr.set d t.lft (k / 2) v) t.rgt else .node t.lft (Tr.set d t.rgt (k / 2) v)) j = if k = j then v else Tr.get (d + 1) t j := by
    have hp : k < 2 ^ (d + 1) ↔ k / 2 < 2 ^ d := by rw [Nat.pow_succ]; omega
    by_cases hkj : k = j
    · subst hkj
      have hlt : k / 2 < 2 ^ d := hp.1 (by rcases hk with h | h; exact h; exact absurd rfl h)
      simp only [if_true]
      by_cases hb : k % 2 = 0
      · have hbb : Nat.beq (k % 2) 0 = true := beq_tt.2 hb
        rw [hbb, Tr.get_succ]; simp only [cond_true, hb, if_true, Tr.lft]; exact same _ _ hlt
      · have hbb : Nat.beq (k % 2) 0 = false := beq_ff.2 hb
        rw [hbb, Tr.get_succ]; simp only [cond_false, hb, if_false, Tr.rgt]; exact same _ _ hlt
    · simp only [hkj, if_false]
      rw [Tr.get_succ (t := t)]
      by_cases hb : k % 2 = 0
      · have hbb : Nat.beq (k % 2) 0 = true := beq_tt.2 hb
        rw [hbb, Tr.get_succ]; simp only [cond_true, Tr.lft, Tr.rgt]
        by_cases hj : j % 2 = 0
        · simp only [hj, if_true]; exact ne _ _ _ (by omega)
        · simp only [hj, if_false]
      · have hbb : Nat.beq (k % 2) 0 = false := beq_ff.2 hb
        rw [hbb, Tr.get_succ]; simp only [cond_false, Tr.lft, Tr.rgt]
        by_cases hj : j % 2 = 0
        · simp only [hj, if_true]
        · simp only [hj, if_false]; exact ne _ _ _ (by omega)
  cases t with
  | nil =>
    simp only [Tr.set_nil, Tr.get_single, Tr.get_nil]
    by_cases hkj : k = j
    · subst hkj; rcases hk with h | h
      · simp [h]
      · exact absurd rfl h
    · simp [hkj]
  | one i b =>
    simp only [Tr.set_one]
    by_cases hik : i = k
    · have hb : Nat.beq i k = true := beq_tt.2 hik
      subst hik
      simp only [hb, cond_true, Tr.get_single, Tr.get_one]
      by_cases hkj : i = j
      · subst hkj; rcases hk with h | h
        · simp [h]
        · exact absurd rfl h
      · simp [hkj]
    · have hb : Nat.beq i k = false := beq_ff.2 hik
      simp only [hb, cond_false]
      exact go
  | node l r => rw [Tr.set_node]; exact go
theorem Tr.get_set_zero {α : Type} (v : Option α) (t : Tr α) (k j : Nat) (hk : k = 0 ∨ k ≠ j) : Tr.get 0 (Tr.set 0 t k v) j = if k = j then v else Tr.get 0 t j := by
  by_cases h0 : k = 0
  · subst h0
    have hs : Tr.set 0 t 0 v = Tr.single 0 v := by rw [Tr.set_zero]; rfl
    rw [hs, Tr.get_single]
    by_cases hj : 0 = j
    · subst hj; simp
    · simp only [hj, false_and, if_false]
      cases t with
      | nil => rw [Tr.get_nil]
      | one i b => rw [Tr.get_one, if_neg]; rintro ⟨_, h⟩; simp at h; omega
      | node l r => rw [Tr.get_def]
  · have hb : Nat.beq k 0 = false := beq_ff.2 h0
    have hs : Tr.set 0 t k v = t := by rw [Tr.set_zero, hb]; rfl
    rw [hs]
    rcases hk with h | h
    · exact absurd h h0
    · simp [h]
theorem Tr.get_set_both {α : Type} (v : Option α) : ∀ (d : Nat), (∀ (t : Tr α) (k : Nat), k < 2 ^ d → Tr.get d (Tr.set d t k v) k = v) ∧ ∀ (t : Tr α) (k j : Nat), k ≠ j → Tr.get d (Tr.set d t k v) j = Tr.get d t j := by
  intro d
  induction d with
  | zero =>
    refine ⟨fun t k h => ?_, fun t k j h => ?_⟩
    · rw [Tr.get_set_zero v t k k (.inl (by simpa using h))]; simp
    · rw [Tr.get_set_zero v t k j (.inr h)]; simp [h]
  | succ d ih =>
    refine ⟨fun t k h => ?_, fun t k j h => ?_⟩
    · rw [Tr.get_set_succ v d t k k ih.1 ih.2 (.inl h)]; simp
    · rw [Tr.get_set_succ v d t k j ih.1 ih.2 (.inr h)]; simp [h]
theorem Tr.get_set_same {α : Type} (v : Option α) (d : Nat) (t : Tr α) (k : Nat) (h : k < 2 ^ d) : Tr.get d (Tr.set d t k v) k = v := (Tr.get_set_both v d).1 t k h
theorem Tr.get_set_ne {α : Type} (v : Option α) (d : Nat) (t : Tr α) (k j : Nat) (h : k ≠ j) : Tr.get d (Tr.set d t k v) j = Tr.get d t j := (Tr.get_set_both v d).2 t k j h
theorem Tr.get_lt {α : Type} {a : α} : ∀ (d : Nat) (t : Tr α) (k : Nat), Tr.get d t k = some a → k < 2 ^ d := by
  intro d
  induction d with
  | zero =>
    intro t k h
    cases t with
    | nil => rw [Tr.get_nil] at h; cases h
    | one j b =>
      rw [Tr.get_one] at h
      split at h
      · rename_i hh; exact hh.2
      · cases h
    | node l r => rw [Tr.get_def] at h; cases h
  | succ d ih =>
    intro t k h
    rw [Tr.get_succ] at h
    have : k / 2 < 2 ^ d := by
      by_cases hk : k % 2 = 0
      · simp only [hk, if_true] at h; exact ih _ _ h
      · simp only [hk, if_false] at h; exact ih _ _ h
    rw [Nat.pow_succ]; omega
def DEP : Nat := 30
def LIMIT : Nat := 1073741824
/-! ### Rows of cells -/
structure Cells where
  size : Nat
  off : Nat
  pat : List Value
  ov : Tr Value
noncomputable def nth (l : List Value) (k : Nat) : Option Value :=
  List.rec (motive := fun _ => Nat → Option Value) (fun _ => none) (fun v _ ih k => Nat.rec (motive := fun _ => Option Value) (some v) (fun k' _ => ih k') k) l k
theorem nth_eq : ∀ (l : List Value) (k : Nat), nth l k = l[k]?
  | [], k => by simp [nth]
  | v :: l, 0 => by rw [List.getElem?_cons_zero]; rfl
  | v :: l, k + 1 => by
    have := nth_eq l k
    simp only [List.getElem?_cons_succ]
    rw [← this]; rfl
theorem nth_zero (v : Value) (l : List Value) : nth (v :: l) 0 = some v := rfl
def Cells.get (c : Cells) (i : Nat) : Option Value :=
  match c with
  | ⟨sz, off, pat, ov⟩ => Bool.rec (motive := fun _ => Option Value) none (match Tr.get DEP ov (Nat.add off i) with | some v => some v | none => nth pat (Nat.mod (Nat.add off i) pat.length)) (Nat.ble (Nat.succ i) sz)
theorem Cells.get_def (c : Cells) (i : Nat) : c.get i =
  bif Nat.blt i c.size then (match Tr.get DEP c.ov (c.off + i) with | some v => some v | none => nth c.pat ((c.off + i) % c.pat.length)) else none := by
  simp only [cond_rec]; rfl
def Cells.set (c : Cells) (i : Nat) (v : Value) : Option Cells :=
  match c with
  | ⟨sz, off, pat, ov⟩ => Bool.rec (motive := fun _ => Option Cells) none (Bool.rec (motive := fun _ => Option Cells) none (some ⟨sz, off, pat, Tr.set DEP ov (Nat.add off i) (some v)⟩) (Nat.ble (Nat.succ (Nat.add off i)) LIMIT)) (Nat.ble (Nat.succ i) sz)
theorem Cells.set_def (c : Cells) (i : Nat) (v : Value) : c.set i v =
  bif Nat.blt i c.size && Nat.blt (c.off + i) LIMIT then some { c with ov := Tr.set DEP c.ov (c.off + i) (some v) } else none := by
  have e : c.set i v = Bool.rec (motive := fun _ => Option Cells) none (Bool.rec (motive := fun _ => Option Cells) none (some { c with ov := Tr.set DEP c.ov (c.off + i) (some v) }) (Nat.blt (c.off + i) LIMIT)) (Nat.blt i c.size) := rfl
  rw [e]
  cases Nat.blt i c.size <;> cases Nat.blt (c.off + i) LIMIT <;> rfl
theorem blt_iff (a b : Nat) : Nat.blt a b = true ↔ a < b := by simp [Nat.blt, Nat.ble_eq]; omega
theorem blt_false (a b : Nat) : Nat.blt a b = false ↔ b ≤ a := by
  rw [← Bool.not_eq_true, blt_iff]; omega
theorem Cells.get_lt {c : Cells} {i : Nat} {v : Value} (h : c.get i = some v) : i < c.size := by
  rw [Cells.get_def] at h
  cases hb : Nat.blt i c.size with
  | true => exact (blt_iff _ _).1 hb
  | false => simp [hb] at h
theorem Cells.set_size {c c' : Cells} {i : Nat} {v : Value} (h : c.set i v = some c') : c'.size = c.size ∧ i < c.size := by
  rw [Cells.set_def] at h
  cases hb : (Nat.blt i c.size && Nat.blt (c.off + i) LIMIT) with
  | true => simp only [hb, cond_true, Option.some.injEq] at h; subst h; simp only [Bool.and_eq_true] at hb; exact ⟨rfl, (blt_iff _ _).1 hb.1⟩
  | false => simp [hb] at h
theorem Cells.get_set {c c' : Cells} {i : Nat} {v : Value} (h : c.set i v = some c') (j : Nat) : c'.get j = if j = i then some v else c.get j := by
  have ⟨hs, hi⟩ := Cells.set_size h
  rw [Cells.set_def] at h
  cases hb : (Nat.blt i c.size && Nat.blt (c.off + i) LIMIT) with
  | false => simp [hb] at h
  | true =>
    simp only [hb, cond_true, Option.some.injEq] at h
    simp only [Bool.and_eq_true] at hb
    have hl : c.off + i < LIMIT := (blt_iff _ _).1 hb.2
    subst h
    by_cases hj : j = i
    · subst hj
      have : Nat.blt j c.size = true := (blt_iff _ _).2 hi
      simp only [Cells.get_def, this, cond_true, if_true]
      rw [Tr.get_set_same _ _ _ _ (by exact hl)]
    · simp only [Cells.get_def, hj, if_false]
      rw [Tr.get_set_ne _ _ _ _ _ (by omega)]
/-- Cells from a place on. -/
def Cells.gets (c : Cells) : Nat → Nat → Option (List Value)
  | _, 0 => some []
  | i, n + 1 => match c.get i with
    | none => none
    | some v => match c.gets (i + 1) n with
      | none => none
      | some l => some (v :: l)
def Cells.sets (c : Cells) (i : Nat) : List Value → Option Cells
  | [] => some c
  | v :: l => match c.set i v with
    | none => none
    | some c' => c'.sets (i + 1) l
theorem Cells.gets_get : ∀ {c : Cells} (n i : Nat) {l : List Value}, c.gets i n = some l → l.length = n ∧ ∀ j v, l[j]? = some v → c.get (i + j) = some v
  | c, 0, i, l, h => by simp only [Cells.gets, Option.some.injEq] at h; subst h; simp
  | c, n + 1, i, l, h => by
    simp only [Cells.gets] at h
    cases hg : c.get i with
    | none => simp [hg] at h
    | some v =>
      simp only [hg] at h
      cases hr : c.gets (i + 1) n with
      | none => simp [hr] at h
      | some r =>
        simp only [hr, Option.some.injEq] at h
        subst h
        obtain ⟨h1, h2⟩ := Cells.gets_get n (i + 1) hr
        refine ⟨by simp [h1], fun j u hj => ?_⟩
        cases j with
        | zero => simp at hj; subst hj; exact hg
        | succ j => have := h2 j u (by simpa using hj); rw [← this]; congr 1; omega
theorem Cells.sets_get : ∀ (l : List Value) (c : Cells) (i : Nat) {c' : Cells}, c.sets i l = some c' →
    c'.size = c.size ∧ (l ≠ [] → i + l.length ≤ c.size) ∧ ∀ j, c'.get j = if i ≤ j ∧ j < i + l.length then l[j - i]? else c.get j
  | [], c, i, c', h => by
    simp only [Cells.sets, Option.some.injEq] at h; subst h
    exact ⟨rfl, by simp, fun j => by rw [if_neg]; simp only [List.length_nil]; omega⟩
  | v :: l, c, i, c', h => by
    simp only [Cells.sets] at h
    cases hs : c.set i v with
    | none => simp [hs] at h
    | some c1 =>
      simp only [hs] at h
      obtain ⟨h1, h2, h3⟩ := Cells.sets_get l c1 (i + 1) h
      obtain ⟨g1, g2⟩ := Cells.set_size hs
      refine ⟨h1.trans g1, fun _ => ?_, fun j => ?_⟩
      · cases l with
        | nil => simp; omega
        | cons a l => have := h2 (by simp); simp at this ⊢; omega
      · rw [h3 j, Cells.get_set hs j]
        by_cases hj : j = i
        · subst hj; rw [if_neg (by omega), if_pos rfl, if_pos (by simp)]; simp
        · by_cases hj2 : i + 1 ≤ j ∧ j < i + 1 + l.length
          · rw [if_pos hj2, if_pos (by simp; omega)]
            obtain ⟨q, rfl⟩ : ∃ q, j = i + 1 + q := ⟨j - (i + 1), by omega⟩
            rw [show i + 1 + q - i = q + 1 from by omega, show i + 1 + q - (i + 1) = q from by omega]; simp
          · rw [if_neg hj2, if_neg hj, if_neg (by simp; omega)]
/-- A row of its own out of a list. -/
def Cells.ofList (l : List Value) : Cells := { size := l.length, off := 0, pat := l, ov := .nil }
theorem Cells.get_ofList (l : List Value) (i : Nat) : (Cells.ofList l).get i = l[i]? := by
  rw [Cells.get_def]; unfold Cells.ofList
  cases hb : Nat.blt i l.length with
  | true => have := (blt_iff _ _).1 hb; simp [Tr.get_nil, nth_eq, Nat.mod_eq_of_lt this]
  | false => have := (blt_false _ _).1 hb; simp [List.getElem?_eq_none this]
/-! ### The heap of names -/
inductive AObj where
  | cells (esz : Nat) (rw : Bool) (c : Cells)
  | map (es : List MapEntry) (clock : Nat)
  | iter (s : ByteArray) (pos : Nat)
def AObj.own : AObj → Bool
  | .cells _ rw _ => rw
  | _ => true
structure AH where
  next : Nat
  tr : Tr AObj
def AH.get (h : AH) (n : Nat) : Option AObj := Tr.get DEP h.tr n
def AH.put (h : AH) (n : Nat) (o : AObj) : AH := match h with | ⟨nx, tr⟩ => ⟨nx, Tr.set DEP tr n (some o)⟩
def AH.kill (h : AH) (n : Nat) : AH := match h with | ⟨nx, tr⟩ => ⟨nx, Tr.set DEP tr n none⟩
/-- A new name. -/
def AH.new (h : AH) (o : AObj) : Option (Nat × AH) :=
  match h with
  | ⟨nx, tr⟩ => bif Nat.blt nx LIMIT then some (nx, ⟨Nat.succ nx, Tr.set DEP tr nx (some o)⟩) else none
theorem AH.new_def (h : AH) (o : AObj) : h.new o = bif Nat.blt h.next LIMIT then some (h.next, { next := h.next + 1, tr := Tr.set DEP h.tr h.next (some o) }) else none := rfl
theorem AH.get_lim {h : AH} {n : Nat} {o : AObj} (e : h.get n = some o) : n < LIMIT := Tr.get_lt _ _ _ e
theorem AH.get_put_same {h : AH} {n : Nat} {o : AObj} (hn : n < LIMIT) : (h.put n o).get n = some o := Tr.get_set_same _ _ _ _ hn
theorem AH.get_put_ne {h : AH} {n m : Nat} {o : AObj} (hn : n ≠ m) : (h.put n o).get m = h.get m := Tr.get_set_ne _ _ _ _ _ hn
theorem AH.get_kill_same {h : AH} {n : Nat} (hn : n < LIMIT) : (h.kill n).get n = none := Tr.get_set_same _ _ _ _ hn
theorem AH.get_kill_ne {h : AH} {n m : Nat} (hn : n ≠ m) : (h.kill n).get m = h.get m := Tr.get_set_ne _ _ _ _ _ hn
theorem AH.new_some {h h' : AH} {o : AObj} {n : Nat} (e : h.new o = some (n, h')) : n = h.next ∧ h'.next = h.next + 1 ∧ n < LIMIT ∧ h'.get n = some o ∧ ∀ m, m ≠ n → h'.get m = h.get m := by
  rw [AH.new_def] at e
  cases hb : Nat.blt h.next LIMIT with
  | false => simp [hb] at e
  | true =>
    simp only [hb, cond_true, Option.some.injEq, Prod.mk.injEq] at e
    obtain ⟨rfl, rfl⟩ := e
    have hl := (blt_iff _ _).1 hb
    exact ⟨rfl, rfl, hl, Tr.get_set_same _ _ _ _ hl, fun m hm => Tr.get_set_ne _ _ _ _ _ (Ne.symm hm)⟩
/-! ### Values -/
def isFlat : Value → Bool
  | .bool _ | .int _ _ | .float _ _ | .complex _ _ _ | .string _ | .pointer none | .map none | .chan none | .nilFunc | .nilIface => true
  | .slice none n c => Nat.beq n 0 && Nat.beq c 0
  | _ => false
/-- Where a name lies: its block, where it begins in it, how many cells the block has, how many cells an element has (0: no row that grows). -/
structure BI where
  blk : Nat
  base : Nat
  rsize : Nat
  esz : Nat
abbrev Rho := Nat → Option BI
def Rho.le (ρ ρ' : Rho) : Prop := ∀ n bi, ρ n = some bi → ρ' n = some bi
def Rho.upd (ρ : Rho) (n : Nat) (bi : BI) : Rho := fun m => if m = n then some bi else ρ m
mutual
inductive VR (ρ : Rho) : Value → Value → Prop
  | flat {v : Value} : isFlat v = true → VR ρ v v
  | ptr {n off : Nat} {bi : BI} : ρ n = some bi → VR ρ (.pointer (some ⟨n, off, none⟩)) (.pointer (some ⟨bi.blk, bi.base + off, none⟩))
  | slice {n off len cap cap' off' : Nat} {bi : BI} : ρ n = some bi → len ≤ cap → cap ≤ cap' → (cap' = 0 ∨ (off' = bi.base + off ∧ (0 < bi.esz → off' + cap' * bi.esz ≤ bi.rsize))) →
      VR ρ (.slice (some ⟨n, off, none⟩) len cap) (.slice (some ⟨bi.blk, off', none⟩) len cap')
  | map {n : Nat} {bi : BI} : ρ n = some bi → VR ρ (.map (some n)) (.map (some bi.blk))
  | func {fn : Fn} {a b a' b' : Array Value} : VRL ρ a.toList a'.toList → VRL ρ b.toList b'.toList → VR ρ (.func fn a b) (.func fn a' b')
  | iface {t : TypeId} {v v' : Value} : VR ρ v v' → VR ρ (.iface t v) (.iface t v')
  | agg {a a' : Array Value} : VRL ρ a.toList a'.toList → VR ρ (.agg a) (.agg a')
  | tuple {a a' : Array Value} : VRL ρ a.toList a'.toList → VR ρ (.tuple a) (.tuple a')
  | sym {n : Nat} {bi : BI} : Nat.beq (n % 2) 0 = true → ρ n = some bi → VR ρ (.chan (some n)) (.int .i64 ((bi.base : Int) - (bi.rsize : Int)))
  | symS {n blk off len cap : Nat} : Nat.beq (n % 2) 0 = false → ρ n = some ⟨blk, off + 1, len, cap⟩ → VR ρ (.chan (some n)) (.slice (some ⟨blk, off, none⟩) len cap)
  | symN {n blk len cap : Nat} : Nat.beq (n % 2) 0 = false → ρ n = some ⟨blk, 0, len, cap⟩ → VR ρ (.chan (some n)) (.slice none 0 0)
inductive VRL (ρ : Rho) : List Value → List Value → Prop
  | nil : VRL ρ [] []
  | cons {v v' : Value} {l l' : List Value} : VR ρ v v' → VRL ρ l l' → VRL ρ (v :: l) (v' :: l')
end
mutual
theorem VR.mono {ρ ρ' : Rho} (hl : ρ.le ρ') {v v' : Value} : VR ρ v v' → VR ρ' v v'
  | .flat h => .flat h
  | .ptr h => .ptr (hl _ _ h)
  | .slice h a b c => .slice (hl _ _ h) a b c
  | .map h => .map (hl _ _ h)
  | .func a b => .func (VRL.mono hl a) (VRL.mono hl b)
  | .iface a => .iface (VR.mono hl a)
  | .agg a => .agg (VRL.mono hl a)
  | .tuple a => .tuple (VRL.mono hl a)
  | .sym p h => .sym p (hl _ _ h)
  | .symS p h => .symS p (hl _ _ h)
  | .symN p h => .symN p (hl _ _ h)
theorem VRL.mono {ρ ρ' : Rho} (hl : ρ.le ρ') {v v' : List Value} : VRL ρ v v' → VRL ρ' v v'
  | .nil => .nil
  | .cons a b => .cons (VR.mono hl a) (VRL.mono hl b)
end
theorem Rho.le_refl (ρ : Rho) : ρ.le ρ := fun _ _ h => h
theorem Rho.le_trans {a b c : Rho} (h : a.le b) (k : b.le c) : a.le c := fun n bi e => k n bi (h n bi e)
theorem Rho.le_upd {ρ : Rho} {n : Nat} {bi : BI} (h : ρ n = none) : ρ.le (ρ.upd n bi) := by
  intro m bj e
  unfold Rho.upd
  by_cases hm : m = n
  · subst hm; rw [h] at e; cases e
  · simp [hm, e]
theorem Rho.upd_same {ρ : Rho} {n : Nat} {bi : BI} : ρ.upd n bi n = some bi := by simp [Rho.upd]
theorem VRL.length {ρ : Rho} : ∀ {l l' : List Value}, VRL ρ l l' → l.length = l'.length
  | _, _, .nil => rfl
  | _, _, .cons _ h => by simp [VRL.length h]
theorem VRL.get {ρ : Rho} : ∀ {l l' : List Value}, VRL ρ l l' → ∀ (i : Nat) (v : Value), l[i]? = some v → ∃ v', l'[i]? = some v' ∧ VR ρ v v'
  | _, _, .nil, i, v, e => by simp at e
  | _, _, .cons a h, 0, v, e => by simp at e; subst e; exact ⟨_, by simp, a⟩
  | _, _, .cons a h, i + 1, v, e => by simpa using VRL.get h i v (by simpa using e)
theorem VRL.ofGet {ρ : Rho} : ∀ {l l' : List Value}, l.length = l'.length → (∀ (i : Nat) (v : Value), l[i]? = some v → ∃ v', l'[i]? = some v' ∧ VR ρ v v') → VRL ρ l l'
  | [], [], _, _ => .nil
  | v :: l, [], h, _ => by simp at h
  | [], v :: l, h, _ => by simp at h
  | v :: l, v' :: l', h, g => by
    refine .cons ?_ (VRL.ofGet (by simpa using h) fun i u e => by simpa using g (i + 1) u (by simpa using e))
    obtain ⟨u, hu, r⟩ := g 0 v (by simp)
    simp at hu; subst hu; exact r
theorem VRL.append {ρ : Rho} : ∀ {l l' m m' : List Value}, VRL ρ l l' → VRL ρ m m' → VRL ρ (l ++ m) (l' ++ m')
  | _, _, _, _, .nil, h => h
  | _, _, _, _, .cons a b, h => .cons a (VRL.append b h)
/-! ### Objects, the world -/
def OR (ρ : Rho) (bi : BI) : AObj → Option Obj → Prop
  | .cells esz rw c, ro => bi.esz = esz ∧ ∃ rc ty fz, ro = some (.cells rc ty fz) ∧ rc.size = bi.rsize ∧ bi.base + c.size ≤ bi.rsize ∧
      (∀ (i : Nat) (v : Value), c.get i = some v → ∃ v', rc[bi.base + i]? = some v' ∧ VR ρ v v') ∧ (rw = true → ∀ i, i < rc.size → ¬ (fz.1 ≤ i ∧ i < fz.2))
  | .map es clock, ro => ∃ res : Array MapEntry, ro = some (.map res clock) ∧ res.size = es.length ∧
      ∀ (i : Nat) (e : MapEntry), es[i]? = some e → ∃ e' : MapEntry, res[i]? = some e' ∧ VR ρ e.key e'.key ∧ VR ρ e.val e'.val ∧ e.born = e'.born
  | .iter s pos, ro => bi.base = 0 ∧ ro = some (.stringIter s pos)
theorem OR.mono {ρ ρ' : Rho} (hl : ρ.le ρ') {bi : BI} {o : AObj} {ro : Option Obj} (h : OR ρ bi o ro) : OR ρ' bi o ro := by
  cases o with
  | cells esz rw c =>
    obtain ⟨h0, rc, ty, fz, h1, h2, h3, h4, h5⟩ := h
    exact ⟨h0, rc, ty, fz, h1, h2, h3, fun i v e => let ⟨v', a, b⟩ := h4 i v e; ⟨v', a, b.mono hl⟩, h5⟩
  | map es clock =>
    obtain ⟨res, h1, h2, h3⟩ := h
    exact ⟨res, h1, h2, fun i e he => let ⟨e', a, b, c, d⟩ := h3 i e he; ⟨e', a, b.mono hl, c.mono hl, d⟩⟩
  | iter s pos => simpa [OR] using h
/-- How many globals there are, and what the names of unknown numbers (even ones) and slices (odd ones) stand for. -/
structure GS where
  g : Nat
  s : Nat → Option BI
  hs : ∀ n bi, s n = some bi → LIMIT ≤ n
def GS.of (g : Nat) : GS := { g, s := fun _ => none, hs := fun _ _ h => by cases h }
def GlobOk (G : GS) (ρ : Rho) : Prop := (∀ g, g < G.g → ∃ rs, ρ g = some ⟨g, 0, rs, 0⟩) ∧ ∀ n bi, G.s n = some bi → ρ n = some bi
theorem GlobOk.mono {G : GS} {ρ ρ' : Rho} (h : GlobOk G ρ) (hl : ρ.le ρ') : GlobOk G ρ' :=
  ⟨fun g hg => let ⟨rs, hr⟩ := h.1 g hg; ⟨rs, hl _ _ hr⟩, fun n bi e => hl _ _ (h.2 n bi e)⟩
/-- What is fixed: how many globals there are; how many blocks lay there at the beginning; names that are kept for later. -/
structure Cx where
  G : GS
  B : Nat
  R : Nat → Prop
/-- New blocks lie behind the old ones, new names ahead of those that are kept. -/
def Room (X : Cx) (w : World) (h : AH) : Prop := X.B ≤ w.heap.size ∧ ∀ n, X.R n → h.next ≤ n
structure Rel (X : Cx) (ρ : Rho) (h : AH) (w : World) : Prop where
  low : ∀ n o, h.get n = some o → n < h.next
  ro : ∀ n o bi, h.get n = some o → o.own = false → ρ n = some bi → bi.blk < X.B
  dom : ∀ n bi, ρ n = some bi → n < h.next ∨ X.R n
  blk : ∀ n bi, ρ n = some bi → bi.blk < w.heap.size
  glob : GlobOk X.G ρ
  objs : ∀ n o, h.get n = some o → ∃ bi, ρ n = some bi ∧ OR ρ bi o w.heap[bi.blk]?
  own : ∀ n o bi, h.get n = some o → o.own = true → ρ n = some bi → X.B ≤ bi.blk ∧ ∀ m o' bj, h.get m = some o' → ρ m = some bj → m ≠ n → bj.blk ≠ bi.blk
/-- Is a block one that the heap of names owns? -/
def Owned (ρ : Rho) (h : AH) (b : Nat) : Prop := ∃ n o bi, h.get n = some o ∧ o.own = true ∧ ρ n = some bi ∧ bi.blk = b
structure Ext (ρ : Rho) (h : AH) (w : World) (ρ' : Rho) (h' : AH) (w' : World) : Prop where
  doms : ∀ n bi, ρ' n = some bi → ρ n = some bi ∨ (h.next ≤ n ∧ n < h'.next)
  le : ρ.le ρ'
  next : h.next ≤ h'.next
  size : w.heap.size ≤ w'.heap.size
  fr : ∀ b, b < w.heap.size → ¬ Owned ρ h b → w'.heap[b]? = w.heap[b]?
  ownm : ∀ b, Owned ρ' h' b → w.heap.size ≤ b ∨ Owned ρ h b
  tape : w'.tape = w.tape
  os : w'.os = w.os
  output : w'.output = w.output
theorem Ext.refl (ρ : Rho) (h : AH) (w : World) : Ext ρ h w ρ h w :=
  ⟨fun _ _ hh => .inl hh, Rho.le_refl ρ, Nat.le_refl _, Nat.le_refl _, fun _ _ _ => rfl, fun _ h => .inr h, rfl, rfl, rfl⟩
theorem Ext.trans {ρ ρ1 ρ2 : Rho} {h h1 h2 : AH} {w w1 w2 : World} (a : Ext ρ h w ρ1 h1 w1) (b : Ext ρ1 h1 w1 ρ2 h2 w2) : Ext ρ h w ρ2 h2 w2 := by
  refine ⟨fun n bi hn => ?_, Rho.le_trans a.le b.le, Nat.le_trans a.next b.next, Nat.le_trans a.size b.size, fun k hk hn => ?_, fun k hk => ?_, b.tape.trans a.tape, b.os.trans a.os, b.output.trans a.output⟩
  · have h1 := a.next
    have h2 := b.next
    rcases b.doms n bi hn with hh | hh
    · rcases a.doms n bi hh with hh | hh
      · exact .inl hh
      · exact .inr ⟨hh.1, by omega⟩
    · exact .inr ⟨by omega, hh.2⟩
  · rw [b.fr k (Nat.lt_of_lt_of_le hk a.size) ?_, a.fr k hk hn]
    intro ho
    rcases a.ownm k ho with h | h
    · omega
    · exact hn h
  · rcases b.ownm k hk with h | h
    · exact .inl (Nat.le_trans a.size h)
    · exact a.ownm k h
/-- Only what is no heap has turned (draws). -/
theorem Rel.heap {X : Cx} {ρ : Rho} {h : AH} {w w' : World} (r : Rel X ρ h w) (e : w'.heap = w.heap) : Rel X ρ h w' :=
  ⟨r.low, r.ro, r.dom, fun n bi x => by rw [e]; exact r.blk n bi x, r.glob, fun n o x => by rw [e]; exact r.objs n o x, r.own⟩
theorem Ext.drew (ρ : Rho) (h : AH) (w : World) : Ext ρ h w ρ h w.drew :=
  ⟨fun _ _ hh => .inl hh, Rho.le_refl ρ, Nat.le_refl _, Nat.le_refl _, fun _ _ _ => rfl, fun _ h => .inr h, rfl, rfl, rfl⟩
theorem Rel.drew {X : Cx} {ρ : Rho} {h : AH} {w : World} (r : Rel X ρ h w) : Rel X ρ h w.drew := r.heap rfl
theorem Rel.fresh {X : Cx} {ρ : Rho} {h : AH} {w : World} (r : Rel X ρ h w) (hR : ¬ X.R h.next) : ρ h.next = none := by
  cases e : ρ h.next with
  | none => rfl
  | some bi => rcases r.dom _ _ e with h | h
               · omega
               · exact absurd h hR
/-- A new name, over a new block. -/
theorem Rel.alloc {X : Cx} {ρ : Rho} {h h' : AH} {w : World} {o : AObj} {n : Nat} (r : Rel X ρ h w) (hB : Room X w h') (e : h.new o = some (n, h')) (ro : Obj) (rs es : Nat)
    (ho : OR ρ ⟨w.heap.size, 0, rs, es⟩ o (some ro)) (how : o.own = true := by rfl) :
    Rel X (ρ.upd n ⟨w.heap.size, 0, rs, es⟩) h' (w.alloc ro) ∧ Ext ρ h w (ρ.upd n ⟨w.heap.size, 0, rs, es⟩) h' (w.alloc ro) := by
  obtain ⟨rfl, hnext, hlim, hget, hoth⟩ := AH.new_some e
  have hf := r.fresh (fun hh => by have := hB.2 _ hh; omega)
  have hB := hB.1
  have hle : ρ.le (ρ.upd h.next ⟨w.heap.size, 0, rs, es⟩) := Rho.le_upd hf
  have hold : ∀ k, k < w.heap.size → (w.alloc ro).heap[k]? = w.heap[k]? := fun k hk => by
    show (w.heap.push ro)[k]? = _
    rw [Array.getElem?_push, if_neg (by omega)]
  have hnew : (w.alloc ro).heap[w.heap.size]? = some ro := by
    show (w.heap.push ro)[w.heap.size]? = _
    simp
  have hone : ∀ m bi, m ≠ h.next → ρ.upd h.next ⟨w.heap.size, 0, rs, es⟩ m = some bi → ρ m = some bi := fun m bi hm he => by
    simpa [Rho.upd, hm] using he
  refine ⟨⟨fun m o' hm => ?_, fun m o' bi hm ho' hb => ?_, fun m bi hm => ?_, fun m bi hm => ?_, r.glob.mono hle, fun m o' hm => ?_, fun m o' bi hm ho' hb => ?_⟩, ⟨fun m bi hm => ?_, hle, by omega, by simp, fun b hb _ => hold b hb, fun b hb => ?_, rfl, rfl, rfl⟩⟩
  · by_cases hk : m = h.next
    · omega
    · rw [hoth m hk] at hm; have := r.low m o' hm; omega
  · by_cases hk : m = h.next
    · subst hk; rw [hget] at hm; cases hm; rw [how] at ho'; cases ho'
    · rw [hoth m hk] at hm; exact r.ro m o' bi hm ho' (hone m bi hk hb)
  · by_cases hk : m = h.next
    · left; omega
    · rcases r.dom m bi (hone m bi hk hm) with hh | hh
      · left; omega
      · right; exact hh
  · by_cases hk : m = h.next
    · subst hk; simp [Rho.upd] at hm; subst hm; simp
    · have := r.blk m bi (hone m bi hk hm); simp; omega
  · by_cases hk : m = h.next
    · subst hk
      rw [hget] at hm; cases hm
      exact ⟨_, Rho.upd_same, by rw [hnew]; exact ho.mono hle⟩
    · rw [hoth m hk] at hm
      obtain ⟨bi, h1, h2⟩ := r.objs m o' hm
      exact ⟨bi, hle _ _ h1, by rw [hold _ (r.blk m bi h1)]; exact h2.mono hle⟩
  · by_cases hk : m = h.next
    · subst hk
      simp [Rho.upd] at hb; subst hb
      refine ⟨hB, fun m' o'' bj h1 h2 h3 => ?_⟩
      have := r.blk m' bj (hone m' bj h3 h2)
      simp; omega
    · rw [hoth m hk] at hm
      have hb' := hone m bi hk hb
      obtain ⟨h1, h2⟩ := r.own m o' bi hm ho' hb'
      refine ⟨h1, fun m' o'' bj g1 g2 g3 => ?_⟩
      by_cases hk' : m' = h.next
      · subst hk'
        simp [Rho.upd] at g2; subst g2
        have := r.blk m bi hb'
        simp; omega
      · rw [hoth m' hk'] at g1
        exact h2 m' o'' bj g1 (hone m' bj hk' g2) g3
  · by_cases hk : m = h.next
    · right; omega
    · left; exact hone m bi hk hm
  · obtain ⟨m, o', bi, g1, g2, g3, g4⟩ := hb
    by_cases hk : m = h.next
    · subst hk; simp [Rho.upd] at g3; subst g3; exact .inl (by have : w.heap.size = b := g4; omega)
    · rw [hoth m hk] at g1
      exact .inr ⟨m, o', bi, g1, g2, hone m bi hk g3, g4⟩
/-- An owned object turns in place. -/
theorem Rel.write {X : Cx} {ρ : Rho} {h : AH} {w w' : World} {o o' : AObj} {n : Nat} {bi : BI} (r : Rel X ρ h w) (hg : h.get n = some o) (ho : o.own = true) (hb : ρ n = some bi)
    (hs : w'.heap.size = w.heap.size) (hoth : ∀ k, k ≠ bi.blk → w'.heap[k]? = w.heap[k]?) (hor : OR ρ bi o' w'.heap[bi.blk]?) (ht : w'.tape = w.tape) (hos : w'.os = w.os) (hout : w'.output = w.output) (how : o'.own = true := by rfl) :
    Rel X ρ (h.put n o') w' ∧ Ext ρ h w ρ (h.put n o') w' := by
  have hn := AH.get_lim hg
  have hput : (h.put n o').get n = some o' := AH.get_put_same hn
  have hne : ∀ m, m ≠ n → (h.put n o').get m = h.get m := fun m hm => AH.get_put_ne (Ne.symm hm)
  obtain ⟨hB, hd⟩ := r.own n o bi hg ho hb
  refine ⟨⟨fun m o'' hm => ?_, fun m o'' bj hm ho'' hbj => ?_, fun m bj hm => r.dom m bj hm, fun m bj hm => by rw [hs]; exact r.blk m bj hm, r.glob, fun m o'' hm => ?_, fun m o'' bj hm ho'' hbj => ?_⟩,
    ⟨fun _ _ hh => .inl hh, Rho.le_refl ρ, Nat.le_refl _, by omega, fun b hb' hno => hoth b fun hbb => hno ⟨n, o, bi, hg, ho, hb, hbb.symm⟩, fun b hbo => ?_, ht, hos, hout⟩⟩
  · by_cases hk : m = n
    · subst hk; exact r.low m o hg
    · rw [hne m hk] at hm; exact r.low m o'' hm
  · by_cases hk : m = n
    · subst hk; rw [hput] at hm; cases hm; rw [how] at ho''; cases ho''
    · rw [hne m hk] at hm; exact r.ro m o'' bj hm ho'' hbj
  · by_cases hk : m = n
    · subst hk; rw [hput] at hm; cases hm; exact ⟨bi, hb, hor⟩
    · rw [hne m hk] at hm
      obtain ⟨bj, h1, h2⟩ := r.objs m o'' hm
      exact ⟨bj, h1, by rw [hoth _ (hd m o'' bj hm h1 hk)]; exact h2⟩
  · by_cases hk : m = n
    · subst hk
      rw [hb] at hbj; cases hbj
      refine ⟨hB, fun m' o3 bk g1 g2 g3 => ?_⟩
      rw [hne m' g3] at g1
      exact hd m' o3 bk g1 g2 g3
    · rw [hne m hk] at hm
      obtain ⟨h1, h2⟩ := r.own m o'' bj hm ho'' hbj
      refine ⟨h1, fun m' o3 bk g1 g2 g3 => ?_⟩
      by_cases hk' : m' = n
      · subst hk'
        rw [hb] at g2; cases g2
        exact Ne.symm (hd m o'' bj hm hbj hk)
      · rw [hne m' hk'] at g1
        exact h2 m' o3 bk g1 g2 g3
  · obtain ⟨m, o'', bj, g1, g2, g3, g4⟩ := hbo
    by_cases hk : m = n
    · subst hk; rw [hb] at g3; cases g3; exact .inr ⟨m, o, bi, hg, ho, hb, g4⟩
    · rw [hne m hk] at g1; exact .inr ⟨m, o'', bj, g1, g2, g3, g4⟩
/-- An owned row goes over to a new name: the old one is gone. -/
theorem Rel.rename {X : Cx} {ρ : Rho} {h h' : AH} {w w' : World} {o o' : AObj} {n m : Nat} {bi bj : BI} (r : Rel X ρ h w) (hg : h.get n = some o) (ho : o.own = true) (hb : ρ n = some bi)
    (hB : Room X w h') (e : (h.kill n).new o' = some (m, h')) (hblk : bj.blk = bi.blk) (hs : w'.heap.size = w.heap.size) (hoth : ∀ k, k ≠ bi.blk → w'.heap[k]? = w.heap[k]?) (hor : OR ρ bj o' w'.heap[bi.blk]?)
    (ht : w'.tape = w.tape) (hos : w'.os = w.os) (hout : w'.output = w.output) (how : o'.own = true := by rfl) :
    Rel X (ρ.upd m bj) h' w' ∧ Ext ρ h w (ρ.upd m bj) h' w' := by
  have hn := AH.get_lim hg
  obtain ⟨rfl, hnext, hlim, hget, hnew⟩ := AH.new_some e
  have hnx : (h.kill n).next = h.next := rfl
  rw [hnx] at hnext hlim hget hnew ⊢
  have hf := r.fresh (fun hh => by have := hB.2 _ hh; omega)
  have hle : ρ.le (ρ.upd h.next bj) := Rho.le_upd hf
  have hnn : n ≠ h.next := fun hh => by rw [hh, hf] at hb; cases hb
  obtain ⟨hB, hd⟩ := r.own n o bi hg ho hb
  have hone : ∀ k bk, k ≠ h.next → ρ.upd h.next bj k = some bk → ρ k = some bk := fun k bk hk he => by simpa [Rho.upd, hk] using he
  have hold : ∀ k o2, k ≠ h.next → h'.get k = some o2 → k ≠ n ∧ h.get k = some o2 := fun k o2 hk hkk => by
    rw [hnew k hk] at hkk
    by_cases hkn : k = n
    · subst hkn; rw [AH.get_kill_same hn] at hkk; cases hkk
    · rw [AH.get_kill_ne (Ne.symm hkn)] at hkk; exact ⟨hkn, hkk⟩
  refine ⟨⟨fun k o2 hk => ?_, fun k o2 bk hk ho2 hbk => ?_, fun k bk hk => ?_, fun k bk hk => ?_, r.glob.mono hle, fun k o2 hk => ?_, fun k o2 bk hk ho2 hbk => ?_⟩, ⟨fun k bk hk => ?_, hle, by omega, by omega, fun b hb' hno => hoth b fun hbb => hno ⟨n, o, bi, hg, ho, hb, hbb.symm⟩, fun b hbo => ?_, ht, hos, hout⟩⟩
  · by_cases hkk : k = h.next
    · omega
    · have := r.low k o2 (hold k o2 hkk hk).2; omega
  · by_cases hkk : k = h.next
    · subst hkk; rw [hget] at hk; cases hk; rw [how] at ho2; cases ho2
    · exact r.ro k o2 bk (hold k o2 hkk hk).2 ho2 (hone k bk hkk hbk)
  · by_cases hkk : k = h.next
    · left; omega
    · rcases r.dom k bk (hone k bk hkk hk) with hh | hh
      · left; omega
      · right; exact hh
  · by_cases hkk : k = h.next
    · subst hkk; simp [Rho.upd] at hk; subst hk; rw [hs, hblk]; exact r.blk n bi hb
    · rw [hs]; exact r.blk k bk (hone k bk hkk hk)
  · by_cases hkk : k = h.next
    · subst hkk; rw [hget] at hk; cases hk
      exact ⟨bj, Rho.upd_same, by rw [hblk]; exact hor.mono hle⟩
    · obtain ⟨hkn, hk'⟩ := hold k o2 hkk hk
      obtain ⟨bk, h1, h2⟩ := r.objs k o2 hk'
      exact ⟨bk, hle _ _ h1, by rw [hoth _ (hd k o2 bk hk' h1 hkn)]; exact h2.mono hle⟩
  · by_cases hkk : k = h.next
    · subst hkk
      simp [Rho.upd] at hbk; subst hbk
      refine ⟨by rw [hblk]; exact hB, fun m' o3 b3 g1 g2 g3 => ?_⟩
      obtain ⟨q1, q2⟩ := hold m' o3 g3 g1
      rw [hblk]; exact hd m' o3 b3 q2 (hone m' b3 g3 g2) q1
    · obtain ⟨hkn, hk'⟩ := hold k o2 hkk hk
      have hbk' := hone k bk hkk hbk
      obtain ⟨h1, h2⟩ := r.own k o2 bk hk' ho2 hbk'
      refine ⟨h1, fun m' o3 b3 g1 g2 g3 => ?_⟩
      by_cases hm' : m' = h.next
      · subst hm'
        simp [Rho.upd] at g2; subst g2
        rw [hblk]; exact Ne.symm (hd k o2 bk hk' hbk' hkn)
      · obtain ⟨q1, q2⟩ := hold m' o3 hm' g1
        exact h2 m' o3 b3 q2 (hone m' b3 hm' g2) g3
  · by_cases hkk : k = h.next
    · right; omega
    · left; exact hone k bk hkk hk
  · obtain ⟨k, o2, bk, g1, g2, g3, g4⟩ := hbo
    by_cases hkk : k = h.next
    · subst hkk; simp [Rho.upd] at g3; subst g3; exact .inr ⟨n, o, bi, hg, ho, hb, by rw [← g4, hblk]⟩
    · obtain ⟨hkn, hk'⟩ := hold k o2 hkk g1
      exact .inr ⟨k, o2, bk, hk', g2, hone k bk hkk g3, g4⟩
end
end Go.VII
