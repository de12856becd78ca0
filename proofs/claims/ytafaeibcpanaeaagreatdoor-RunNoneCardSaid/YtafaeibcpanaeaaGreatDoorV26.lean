/- A function of numbers that leaves nothing behind but its (plain) result: its contract from ONE run on an empty heap. -/
import Derived.Test.YtafaeibcpanaeaaGreatDoorV25
namespace Go.VII
noncomputable section
variable {P : Program} {X : Cx} {ρ : Rho} {h : AH} {w : World} {ext : FuncId → Option Spec}
/-- A value without names, to a depth. -/
def flatD : Nat → Value → Bool
  | 0, v => isFlat v
  | n + 1, v => isFlat v || (match v with
    | .agg cs => cs.toList.all (flatD n)
    | .tuple cs => cs.toList.all (flatD n)
    | .iface _ u => flatD n u
    | _ => false)
theorem flatD_move {ρ ρ1 : Rho} : ∀ (n : Nat) {v v' : Value}, flatD n v = true → VR ρ v v' → VR ρ1 v v' := by
  intro n
  induction n with
  | zero =>
    intro v v' hf hv
    rw [hv.flat_eq hf]; exact .flat hf
  | succ n ih =>
    intro v v' hf hv
    have hl : ∀ {l l' : List Value}, l.all (flatD n) = true → VRL ρ l l' → VRL ρ1 l l' := by
      intro l
      induction l with
      | nil => intro l' _ h; cases h; exact .nil
      | cons v l ihl =>
        intro l' hf h
        cases h with
        | cons a b =>
          simp only [List.all_cons, Bool.and_eq_true] at hf
          exact .cons (ih hf.1 a) (ihl hf.2 b)
    cases hfl : isFlat v with
    | true => rw [hv.flat_eq hfl]; exact .flat hfl
    | false =>
      simp only [flatD, hfl, Bool.false_or] at hf
      split at hf
      · obtain ⟨a', rfl, q⟩ := hv.inv_agg; exact .agg (hl hf q)
      · obtain ⟨a', rfl, q⟩ := hv.inv_tuple; exact .tuple (hl hf q)
      · rename_i t u
        cases hv with
        | flat hh => rw [hfl] at hh; cases hh
        | iface q => exact .iface (ih hf q)
      · cases hf
theorem flatsD_move {ρ ρ1 : Rho} : ∀ {l l' : List Value}, l.all isFlat = true → VRL ρ l l' → VRL ρ1 l l'
  | [], _, _, .nil => .nil
  | _ :: _, _, hf, .cons a b => by
    simp only [List.all_cons, Bool.and_eq_true] at hf
    refine .cons ?_ (flatsD_move hf.2 b)
    rw [a.flat_eq hf.1]; exact .flat hf.1
/-- The world has grown; what lay there lies as it lay. -/
theorem Rel.later {w' : World} (r : Rel X ρ h w) (hs : w.heap.size ≤ w'.heap.size) (hold : ∀ b, b < w.heap.size → w'.heap[b]? = w.heap[b]?) : Rel X ρ h w' := by
  refine ⟨r.low, r.ro, r.dom, fun n bi e => Nat.lt_of_lt_of_le (r.blk n bi e) hs, r.glob, fun n o e => ?_, r.own⟩
  obtain ⟨bi, h1, h2⟩ := r.objs n o e
  exact ⟨bi, h1, by rw [hold _ (r.blk n bi h1)]; exact h2⟩
/-- The empty heap, and the names of the globals. -/
def AH.void (G : GS) : AH := { next := G.g, tr := .nil }
def Rho.glob (ρ : Rho) (G : GS) : Rho := fun n => if n < G.g ∨ (G.s n).isSome = true then ρ n else none
theorem AH.void_get (G : GS) (n : Nat) : (AH.void G).get n = none := Tr.get_nil _ _
def Cx.voidC (X : Cx) : Cx := { G := X.G, B := X.B, R := fun n => (X.G.s n).isSome = true }
theorem Rel.void (r : Rel X ρ h w) : Rel X.voidC (ρ.glob X.G) (AH.void X.G) w := by
  have hsub : ∀ n bi, ρ.glob X.G n = some bi → ρ n = some bi ∧ (n < X.G.g ∨ (X.G.s n).isSome = true) := fun n bi e => by
    simp only [Rho.glob] at e
    split at e
    · rename_i hh; exact ⟨e, hh⟩
    · cases e
  refine ⟨fun n o e => ?_, fun n o bi e => ?_, fun n bi e => (hsub n bi e).2, fun n bi e => r.blk n bi (hsub n bi e).1, ⟨fun g hg => ?_, fun n bi e => ?_⟩, fun n o e => ?_, fun n o bi e => ?_⟩
  · rw [AH.void_get] at e; cases e
  · rw [AH.void_get] at e; cases e
  · have hg' : g < X.G.g := hg
    obtain ⟨rs, hr⟩ := r.glob.1 g hg'
    exact ⟨rs, by simp only [Rho.glob, if_pos (Or.inl hg')]; exact hr⟩
  · have e' : X.G.s n = some bi := e
    have hp : n < X.G.g ∨ (X.G.s n).isSome = true := .inr (by rw [e']; rfl)
    simp only [Rho.glob, if_pos hp]; exact r.glob.2 n bi e'
  · rw [AH.void_get] at e; cases e
  · rw [AH.void_get] at e; cases e
/-- A number is brought to its simplest form. -/
def forceN {α : Type} (n : Nat) (f : Nat → α) : α := Nat.rec (motive := fun _ => α) (f 0) (fun m _ => f (Nat.succ m)) n
theorem forceN_eq {α : Type} (n : Nat) (f : Nat → α) : forceN n f = f n := by cases n <;> rfl
def forceK {α : Type} (k : IntKind) (f : IntKind → α) : α :=
  match k with
  | .i8 => f .i8 | .i16 => f .i16 | .i32 => f .i32 | .i64 => f .i64 | .u8 => f .u8 | .u16 => f .u16 | .u32 => f .u32 | .u64 => f .u64
theorem forceK_eq {α : Type} (k : IntKind) (f : IntKind → α) : forceK k f = f k := by cases k <;> rfl
def forceL : List Value → (List Value → Option (Value × AH)) → Option (Value × AH)
  | [], f => f []
  | v :: l, f => match v with
    | .int k (.ofNat n) => forceK k fun k => forceN n fun n => forceL l fun l => f (.int k (.ofNat n) :: l)
    | .bool b => (match b with
      | true => forceL l fun l => f (.bool true :: l)
      | false => forceL l fun l => f (.bool false :: l))
    | _ => none
theorem forceL_some : ∀ {l : List Value} {f : List Value → Option (Value × AH)} {r : Value × AH}, forceL l f = some r → f l = some r ∧ l.all isFlat = true
  | [], f, r, e => ⟨e, rfl⟩
  | v :: l, f, r, e => by
    unfold forceL at e
    split at e
    · rw [forceK_eq, forceN_eq] at e
      obtain ⟨h1, h2⟩ := forceL_some e
      exact ⟨h1, by simpa [isFlat] using h2⟩
    · split at e
      · obtain ⟨h1, h2⟩ := forceL_some e
        exact ⟨h1, by simpa [isFlat] using h2⟩
      · obtain ⟨h1, h2⟩ := forceL_some e
        exact ⟨h1, by simpa [isFlat] using h2⟩
    · cases e
def pureRun (G : GS) (s : Sm) (f : FuncId) (l : List Value) : Option Value :=
  match s.call f l (AH.void G) with
  | some (.ret V h1) => bif flatD 4 V && Nat.ble h1.next LIMIT then some V else none
  | _ => none
def specP (P : Program) (G : GS) (s : Sm) (f : FuncId) : Spec := fun args h =>
  match P.funcs[f]? with
  | none => none
  | some fn => match fn.body with
    | none => none
    | some _ => forceL args fun l => match pureRun G s f l with
      | some V => some (V, h)
      | none => none
theorem specP_sound {G : GS} {s : Sm} (hc : CallSound P G s.call) {f : FuncId} {args : List Value} {h h1 : AH} {v : Value} (e : specP P G s f args h = some (v, h1)) :
    h.next ≤ h1.next ∧ ∀ (X : Cx) ρ w args', X.G = G → Rel X ρ h w → Room X w h1 → VRL ρ args args'.toList → Calls P f args' w (CPost X ρ h w (.ret v h1)) := by
  unfold specP at e
  split at e
  · cases e
  rename_i fn hfn
  split at e
  · cases e
  rename_i c hb
  obtain ⟨e, hfl⟩ := forceL_some e
  split at e
  rotate_left
  · cases e
  rename_i V hV
  cases e
  refine ⟨Nat.le_refl _, fun X ρ w args' hG r hB ha => ?_⟩
  unfold pureRun at hV
  split at hV
  rotate_left
  · cases hV
  rename_i V' h1 hrun
  obtain ⟨hf, hV⟩ := bif_some hV
  cases hV
  simp only [Bool.and_eq_true, Nat.ble_eq] at hf
  obtain ⟨hf, hlim⟩ := hf
  subst hG
  refine ((hc _ _ _ _ hrun).1 fn hfn (by rw [hb]; rfl) X.voidC (ρ.glob X.G) w args' rfl r.void ⟨hB.1, fun n hh => ?_⟩ (flatsD_move hfl ha)).mono fun en w' hp => ?_
  · have hh' : (X.G.s n).isSome = true := hh
    obtain ⟨bi, hbi⟩ := Option.isSome_iff_exists.1 hh'
    exact Nat.le_trans hlim (X.G.hs n bi hbi)
  obtain ⟨v', ρ', rfl, p1, p2, p3⟩ := hp
  have hold : ∀ b, b < w.heap.size → w'.heap[b]? = w.heap[b]? := fun b hb => p3.fr b hb (by
    rintro ⟨n, o, bi, g1, _⟩
    rw [AH.void_get] at g1; cases g1)
  exact ⟨v', ρ, rfl, flatD_move 4 hf p1, r.later p3.size hold, ⟨fun _ _ hh => .inl hh, Rho.le_refl ρ, Nat.le_refl _, p3.size, fun b hb _ => hold b hb, fun _ hh => .inr hh, p3.tape, p3.os, p3.output⟩⟩
end
end Go.VII
