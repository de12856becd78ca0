/- Kinds of operations; what an operation looks at. -/
import Derived.Test.YtafaeibcpanaeaaGreatDoorV16
import Derived.Orders
namespace Go.VII
noncomputable section
variable {P : Program} {X : Cx} {ρ : Rho} {h : AH} {w : World} {ext : FuncId → Option Spec}
inductive Kd where
  | pure
  | read
  | alloc
  | main
def kindOf (P : Program) (o : Oper) : Kd :=
  match o.op with
  | .move _ | .assign _ | .pick .. | .build .. | .nilCheck _ | .binOp .. | .unOp .. | .makeInterface .. | .makeFunc .. | .fieldAddr .. | .field .. | .indexAddr .. | .index .. | .extract .. | .typeAssert .. => .pure
  | .convert _ d _ => (match P.underlying d with
    | some (.int _) => .pure
    | some (.string) => .read
    | _ => .main)
  | .load .. | .lookup .. | .slice .. => .read
  | .alloc _ | .box .. | .buildSlice .. => .alloc
  | .call { callee := .builtin .len, .. } => .read
  | .call { callee := .builtin .cap, .. } => .read
  | .call { callee := .builtin .max, .. } => .read
  | .call { callee := .builtin .min, .. } => .read
  | _ => .main
def AH.bare (n : Nat) : AH := { next := n, tr := .nil }
theorem AH.bare_get {n m : Nat} : (AH.bare n).get m = none := Tr.get_nil _ _
theorem aval_some' {v : Option Value} {nx : ANext} (e : aval h v = some nx) : ∃ u, nx = .value u h ∧ ∀ h2, aval h2 v = some (.value u h2) := by
  obtain ⟨u, rfl, rfl⟩ := aval_some e; exact ⟨u, rfl, fun _ => rfl⟩
/-- A pure operation needs no heap. -/
theorem aop_pure {f : Ev} {o : Oper} {nx : ANext} (hk : kindOf P o = .pure) (e : aop P ext f o h = some nx) : ∃ u, nx = .value u h ∧ ∀ h2, aop P ext f o h2 = some (.value u h2) := by
  obtain ⟨dst, op, type, pos, after, guard⟩ := o
  cases op <;> simp only [kindOf, reduceCtorEq] at hk <;> simp only [aop] at e ⊢
  case move x => exact aval_some' e
  case assign x => exact aval_some' e
  case pick c x y =>
    cases hc : f c with
    | none => simp [hc] at e
    | some u =>
      cases u <;> simp only [hc, reduceCtorEq] at e ⊢
      exact aval_some' e
  case build t ps =>
    cases hc : evps f ps.toList with
    | none => simp [hc] at e
    | some u => simp only [hc] at e ⊢; exact aval_some' e
  case nilCheck x =>
    cases hc : f x with
    | none => simp [hc] at e
    | some u =>
      simp only [hc] at e ⊢
      split at e <;> first | (cases e; exact ⟨_, rfl, fun _ => rfl⟩) | cases e
  case binOp op t x y yt =>
    cases hx : f x with
    | none => simp [hx] at e
    | some u => cases hy : f y with
      | none => simp [hx, hy] at e
      | some v => simp only [hx, hy] at e ⊢; exact aval_some' e
  case unOp op t x =>
    cases hx : f x with
    | none => simp [hx] at e
    | some u => simp only [hx] at e ⊢; exact aval_some' e
  case convert s d x =>
    cases hx : f x with
    | none => simp [hx] at e
    | some u =>
      simp only [hx] at e ⊢
      have hd : ∃ k, P.underlying d = some (.int k) := by
        split at hk <;> first | (rename_i k hu; exact ⟨k, hu⟩) | cases hk
      obtain ⟨k, hd⟩ := hd
      have h0 : ∀ h, astrBytes P h s d u = none := fun h => by
        unfold astrBytes
        split
        · split
          · rfl
          · simp only [hd]
        · rfl
      have h00 : ∀ h, aunsafe P h s d u = none := fun h => by
        unfold aunsafe
        split
        · simp only [hd]
          split
          · rename_i hh; cases hh
          · rfl
        · rfl
      simp only [h0, h00] at e ⊢
      have h1 : ∀ h2, aconvert P h2 s d u = aconvert P h s d u := fun h2 => by
        unfold aconvert
        cases P.underlying s with
        | none => rfl
        | some S => simp only [hd]; cases u <;> rfl
      simp only [h1]
      exact aval_some' e
  case makeInterface t x =>
    obtain ⟨e1, e2⟩ := bif_some e
    simp only [e1, cond_true] at e2 ⊢
    cases hx : f x with
    | none => simp [hx] at e2
    | some u => simp only [hx, Option.some.injEq] at e2 ⊢; subst e2; exact ⟨_, rfl, fun _ => rfl⟩
  case makeFunc fn a b =>
    cases fn <;> simp only [reduceCtorEq] at e ⊢
    cases hx : evs f a.toList with
    | none => simp [hx] at e
    | some u => cases hy : evs f b.toList with
      | none => simp [hx, hy] at e
      | some v => simp only [hx, hy, Option.some.injEq] at e ⊢; subst e; exact ⟨_, rfl, fun _ => rfl⟩
  case fieldAddr s x k =>
    cases hx : f x with
    | none => simp [hx] at e
    | some u => simp only [hx] at e ⊢; exact aval_some' e
  case field s x k =>
    cases hx : f x with
    | none => simp [hx] at e
    | some u => simp only [hx] at e ⊢; exact aval_some' e
  case indexAddr t x y =>
    cases hx : f x with
    | none => simp [hx] at e
    | some u => cases hy : f y with
      | none => simp [hx, hy] at e
      | some v => simp only [hx, hy] at e ⊢; exact aval_some' e
  case index t x y =>
    cases hx : f x with
    | none => simp [hx] at e
    | some u => cases hy : f y with
      | none => simp [hx, hy] at e
      | some v => simp only [hx, hy] at e ⊢; exact aval_some' e
  case typeAssert x xt t ok =>
    cases ok with
    | false => cases e
    | true =>
    cases hx : f x with
    | none => simp [hx] at e
    | some u => simp only [hx] at e ⊢; exact aval_some' e
  case extract t i =>
    cases hx : f t with
    | none => simp [hx] at e
    | some u =>
      cases u <;> simp only [hx, reduceCtorEq] at e ⊢
      exact aval_some' e
  case call c =>
    obtain ⟨callee, args, ats⟩ := c
    cases callee with
    | value x => cases hk
    | invoke r m => cases hk
    | builtin b => cases b <;> cases hk
theorem abuiltin_quiet {h1 : AH} {b : Builtin} {ats : Array TypeId} {l : List Value} {u : Value} (hb : b = .len ∨ b = .cap ∨ b = .max ∨ b = .min) (e : abuiltin P h b ats l = some (u, h1)) : h1 = h := by
  rcases l with _ | ⟨x, _ | ⟨y, l⟩⟩ <;> rcases hb with rfl | rfl | rfl | rfl <;> simp only [abuiltin, reduceCtorEq] at e
  all_goals
    repeat' (split at e)
    all_goals first
      | (simp only [Option.some.injEq, Prod.mk.injEq] at e; exact e.2.symm)
      | cases e
theorem abuiltinS_quiet {h1 : AH} {b : Builtin} {ats : Array TypeId} {l : List Value} {u : Value} (hb : b = .len ∨ b = .cap ∨ b = .max ∨ b = .min) (e : abuiltinS P ext h b ats l = some (u, h1)) : h1 = h := by
  unfold abuiltinS at e
  split at e
  · rename_i hp; cases e; exact abuiltin_quiet hb hp
  · split at e
    · split at e
      · cases e
      · split at e
        · split at e
          · cases e; rfl
          · cases e
        · cases e
    · cases e
/-- A reading operation leaves the heap. -/
theorem aop_read {f : Ev} {o : Oper} {nx : ANext} (hk : kindOf P o = .read) (e : aop P ext f o h = some nx) : ∃ u, nx = .value u h := by
  obtain ⟨dst, op, type, pos, after, guard⟩ := o
  have av : ∀ {v : Option Value} {nx : ANext}, aval h v = some nx → ∃ u, nx = .value u h := fun e => by
    obtain ⟨u, rfl, rfl⟩ := aval_some e; exact ⟨u, rfl⟩
  cases op <;> simp only [kindOf, reduceCtorEq] at hk <;> simp only [aop] at e
  case load t x =>
    cases hx : f x with
    | none => simp [hx] at e
    | some u => simp only [hx] at e; exact av e
  case convert s d x =>
    cases hx : f x with
    | none => simp [hx] at e
    | some u =>
      simp only [hx] at e
      have hd : P.underlying d = some .string := by
        split at hk <;> first | (rename_i hu; exact hu) | cases hk
      have h0 : astrBytes P h s d u = none := by
        unfold astrBytes
        split
        · split
          · rfl
          · simp only [hd]
        · rfl
      have h00 : aunsafe P h s d u = none := by
        unfold aunsafe
        split
        · simp only [hd]
          split
          · rename_i hh; cases hh
          · rfl
        · rfl
      simp only [h0, h00] at e
      exact av e
  case slice t x lo hi mx =>
    cases mx with
    | some m => cases e
    | none =>
    simp only at e
    split at e
    · exact av e
    · cases e
  case lookup t x i ok =>
    cases hx : f x with
    | none => simp [hx] at e
    | some u => cases hy : f i with
      | none => simp [hx, hy] at e
      | some v => simp only [hx, hy] at e; exact av e
  case call c =>
    obtain ⟨callee, args, ats⟩ := c
    cases callee with
    | value x => cases hk
    | invoke r m => cases hk
    | builtin b =>
    cases b
    all_goals first | (cases hk; done) | skip
    all_goals
      simp only at e
      split at e
      · rename_i l hl
        obtain ⟨u, h1, e1, rfl⟩ := avh_some e
        exact ⟨u, by rw [abuiltinS_quiet (by simp) e1]⟩
      · cases e
/-- An operation that makes one object. -/
theorem aop_alloc {f : Ev} {o : Oper} {nx : ANext} (hk : kindOf P o = .alloc) (e : aop P ext f o h = some nx) :
    ∃ u ob h1, nx = .value u h1 ∧ ob.own = true ∧ h.new ob = some (h.next, h1) ∧ ∀ h2 : AH, h2.next = h.next → ∃ h3, h2.new ob = some (h2.next, h3) ∧ aop P ext f o h2 = some (.value u h3) := by
  obtain ⟨dst, op, type, pos, after, guard⟩ := o
  have key : ∀ {esz n : Nat} {l : List Value} {h1 : AH}, anew h esz l = some (n, h1) → n = h.next ∧ h.new (.cells esz true (Cells.ofList l)) = some (h.next, h1) ∧ ∀ h2 : AH, h2.next = h.next → ∃ h3, h2.new (.cells esz true (Cells.ofList l)) = some (h2.next, h3) ∧ anew h2 esz l = some (n, h3) := by
    intro esz n l h1 en
    unfold anew at en ⊢
    simp only [AH.new_def] at en ⊢
    obtain ⟨e1, e2⟩ := bif_some en
    simp only [Option.some.injEq, Prod.mk.injEq] at e2
    obtain ⟨rfl, rfl⟩ := e2
    refine ⟨rfl, by simp only [e1, cond_true], fun h2 hh => ?_⟩
    rw [hh]
    simp only [e1, cond_true]
    exact ⟨_, rfl, rfl⟩
  cases op <;> simp only [kindOf, reduceCtorEq] at hk <;> simp only [aop] at e ⊢
  case alloc t =>
    obtain ⟨u, h1, e1, rfl⟩ := avh_some e
    unfold aalloc at e1 ⊢
    split at e1
    · cases e1
    · rename_i z hz
      split at e1
      · cases e1
      · rename_i n h2 hn
        simp only [Option.some.injEq, Prod.mk.injEq] at e1
        obtain ⟨rfl, rfl⟩ := e1
        obtain ⟨rfl, k1, k2⟩ := key hn
        refine ⟨_, _, _, rfl, rfl, k1, fun h2 hh => ?_⟩
        obtain ⟨h3, q1, q2⟩ := k2 h2 hh
        exact ⟨h3, q1, by simp only [q2, avh]⟩
  case box t x =>
    cases hx : f x with
    | none => simp [hx] at e
    | some v =>
      simp only [hx] at e ⊢
      obtain ⟨u, h1, e1, rfl⟩ := avh_some e
      unfold abox at e1 ⊢
      split at e1
      · cases e1
      · rename_i n h2 hn
        simp only [Option.some.injEq, Prod.mk.injEq] at e1
        obtain ⟨rfl, rfl⟩ := e1
        obtain ⟨rfl, k1, k2⟩ := key hn
        refine ⟨_, _, _, rfl, rfl, k1, fun h2 hh => ?_⟩
        obtain ⟨h3, q1, q2⟩ := k2 h2 hh
        exact ⟨h3, q1, by simp only [q2, avh]⟩
  case buildSlice t len ps =>
    cases hx : evps f ps.toList with
    | none => simp [hx] at e
    | some v =>
      simp only [hx] at e ⊢
      obtain ⟨u, h1, e1, rfl⟩ := avh_some e
      unfold abuildSlice at e1 ⊢
      split at e1
      · rename_i el hu
        split at e1
        · cases e1
        · rename_i z hz
          split at e1
          · cases e1
          · rename_i ie hi
            obtain ⟨c1, c2⟩ := bif_some e1
            split at c2
            · cases c2
            · rename_i cs hcs
              split at c2
              · cases c2
              · rename_i n h2 hn
                simp only [Option.some.injEq, Prod.mk.injEq] at c2
                obtain ⟨rfl, rfl⟩ := c2
                obtain ⟨rfl, k1, k2⟩ := key hn
                refine ⟨_, _, _, rfl, rfl, k1, fun h2 hh => ?_⟩
                obtain ⟨h3, q1, q2⟩ := k2 h2 hh
                exact ⟨h3, q1, by simp only [q2, avh, c1, cond_true]⟩
      · cases e1
  case convert s d x => split at hk <;> cases hk
  case call c =>
    obtain ⟨callee, args, ats⟩ := c
    cases callee with
    | value x => cases hk
    | invoke r m => cases hk
    | builtin b => cases b <;> cases hk
/-! ### What an operation looks at -/
theorem evs_congr {f g : Ev} : ∀ {l : List Operand}, (∀ x ∈ l, f x = g x) → evs f l = evs g l
  | [], _ => rfl
  | x :: l, hh => by
    simp only [evs]
    rw [hh x (by simp), evs_congr fun y hy => hh y (by simp [hy])]
theorem evps_congr {f g : Ev} : ∀ {l : List (Nat × Operand)}, (∀ x ∈ l, f x.2 = g x.2) → evps f l = evps g l
  | [], _ => rfl
  | (i, x) :: l, hh => by
    simp only [evps]
    rw [hh (i, x) (by simp), evps_congr fun y hy => hh y (by simp [hy])]
theorem optv_congr {f g : Ev} {x : Option Operand} (hh : ∀ y, x = some y → f y = g y) : optv f x = optv g x := by
  cases x with
  | none => rfl
  | some y => simp only [optv]; rw [hh y rfl]
theorem aop_congr {f g : Ev} {o : Oper} (hh : ∀ x ∈ o.op.operands.toList, f x = g x) : aop P ext f o h = aop P ext g o h := by
  obtain ⟨dst, op, type, pos, after, guard⟩ := o
  cases op <;> simp only [Op.operands] at hh <;> simp only [aop]
  case build t ps => rw [evps_congr (f := f) (g := g) fun x hx => hh x.2 (by simp only [List.mem_map]; exact ⟨x, hx, rfl⟩)]
  case buildSlice t n ps => rw [evps_congr (f := f) (g := g) fun x hx => hh x.2 (by simp only [List.mem_map]; exact ⟨x, hx, rfl⟩)]
  case makeFunc fn a b =>
    cases fn <;> simp only []
    rw [evs_congr (f := f) (g := g) (l := a.toList) fun x hx => hh x (by simp; exact .inl (by simpa using hx)), evs_congr (f := f) (g := g) (l := b.toList) fun x hx => hh x (by simp; exact .inr (by simpa using hx))]
  case makeMap t r => rw [optv_congr (f := f) (g := g) fun y hy => hh y (by subst hy; simp)]
  case slice t x lo hi mx =>
    cases mx <;> simp only []
    rw [hh x (by simp), optv_congr (f := f) (g := g) (x := lo) fun y hy => hh y (by subst hy; simp), optv_congr (f := f) (g := g) (x := hi) fun y hy => hh y (by subst hy; simp)]
  case call c =>
    obtain ⟨callee, args, ats⟩ := c
    have ha : evs f args.toList = evs g args.toList := evs_congr fun x hx => hh x (by simp [Call.operands]; exact .inr (by simpa using hx))
    cases callee with
    | builtin b => simp only [ha]
    | invoke r m => rfl
    | value x =>
      have hx : f x = g x := hh x (by simp [Call.operands])
      simp only [ha, hx]
  case typeAssert x xt t ok =>
    cases ok with
    | false => rfl
    | true => simp only [List.mem_cons, List.not_mem_nil, or_false, forall_eq] at hh; simp only [hh]
  case defer c =>
    obtain ⟨callee, args, ats⟩ := c
    have ha : evs f args.toList = evs g args.toList := evs_congr fun x hx => hh x (by simp [Call.operands]; exact .inr (by simpa using hx))
    cases callee with
    | builtin b => rfl
    | invoke r m => rfl
    | value x =>
      have hx : f x = g x := hh x (by simp [Call.operands])
      simp only [ha, hx]
  all_goals first | rfl | (simp only [List.mem_cons, List.not_mem_nil, or_false, forall_eq_or_imp, forall_eq] at hh; simp only [hh])
end
end Go.VII
