/- One operation: over the heap of names, and in the model. -/
import Derived.Test.YtafaeibcpanaeaaGreatDoorV11z
namespace Go.VII
noncomputable section
variable {P : Program} {X : Cx} {ρ : Rho} {h : AH} {w : World}
/-- A function that is taken by its contract: what it gives, over the heap of names. -/
abbrev Spec := List Value → AH → Option (Value × AH)
inductive ANext where
  | value (v : Value) (h : AH)
  | enter (f : FuncId) (args : List Value)
  | panic (v : Value)
  | defer (f : FuncId) (args : List Value)
def abuiltin (P : Program) (h : AH) (b : Builtin) (ats : Array TypeId) (args : List Value) : Option (Value × AH) :=
  match b, args with
  | .len, [x] => (match alen P h ats x with | some v => some (v, h) | none => none)
  | .append, [s, x] => (match aappend P h ats s x with
    | some r => some r
    | none => aappendZ P h ats s x)
  | .cap, [x] => (match acapN P ats x with | some v => some (v, h) | none => none)
  | .copy, [d, s] => acopy P h ats d s
  | .delete, [m, k] => (match ats[0]? with
    | none => none
    | some T => match adelete P h T m k with | some h1 => some (.tuple #[], h1) | none => none)
  | .clear, [x] => (match aclear P h ats x with | some h1 => some (.tuple #[], h1) | none => none)
  | .max, x :: l => (match x with
    | .int _ _ => (match afoldO amax2 x l with | some v => some (v, h) | none => none)
    | _ => none)
  | .min, x :: l => (match x with
    | .int _ _ => (match afoldO amin2 x l with | some v => some (v, h) | none => none)
    | _ => none)
  | _, _ => none
theorem abuiltin_sound {h1 : AH} (r : Rel X ρ h w) (hB : Room X w h1) {b : Builtin} {ats : Array TypeId} {ty : TypeId} {cs : Array Bool} {args args' : List Value} {u : Value}
    (e : abuiltin P h b ats args = some (u, h1)) (ha : VRL ρ args args') :
    ∃ u' w' ρ', (builtin b ats ty cs args'.toArray).run P w = .ok (.value u') w' ∧ VR ρ' u u' ∧ Rel X ρ' h1 w' ∧ Ext ρ h w ρ' h1 w' := by
  have lift : ∀ {s : Sem Value} {u : Value} {h1 : AH}, Gives P X ρ h w s u h1 → ∃ u' w' ρ', (do pure (Next.value (← s)) : Sem Next).run P w = .ok (.value u') w' ∧ VR ρ' u u' ∧ Rel X ρ' h1 w' ∧ Ext ρ h w ρ' h1 w' := by
    rintro s u h1 ⟨u', w', ρ', a, b, c, d⟩
    exact ⟨u', w', ρ', by simp [a], b, c, d⟩
  unfold abuiltin at e
  split at e
  · rename_i x
    cases ha with
    | cons a b =>
      cases b
      cases hl : alen P h ats x with
      | none => simp [hl] at e
      | some v =>
        simp only [hl, Option.some.injEq, Prod.mk.injEq] at e; obtain ⟨rfl, rfl⟩ := e
        obtain ⟨g1, g2⟩ := alen_sound (P := P) (ty := ty) r hl a
        exact lift ⟨v, w, ρ, g1, .flat g2, r, .refl _ _ _⟩
  · cases ha with
    | cons a b => cases b with
      | cons b c =>
        cases c
        split at e
        · rename_i p hp; cases e; exact lift (aappend_sound r hB hp a b)
        · exact lift (aappendZ_sound r hB e a b)
  · cases ha with
    | cons a b =>
      cases b
      split at e
      · rename_i v hv
        simp only [Option.some.injEq, Prod.mk.injEq] at e; obtain ⟨rfl, rfl⟩ := e
        obtain ⟨g1, g2⟩ := acapN_sound (P := P) (w := w) (ty := ty) hv a
        exact lift ⟨v, w, ρ, g1, .flat g2, r, .refl _ _ _⟩
      · cases e
  · cases ha with
    | cons a b => cases b with
      | cons b c => cases c; exact lift (acopy_sound r e a b)
  · rename_i m k
    cases ha with
    | cons a b => cases b with
      | cons b c =>
        cases c
        cases hT : ats[0]? with
        | none => simp [hT] at e
        | some T =>
          simp only [hT] at e
          cases hd : adelete P h T m k with
          | none => simp [hd] at e
          | some h2 => simp only [hd, Option.some.injEq, Prod.mk.injEq] at e; obtain ⟨rfl, rfl⟩ := e; exact lift (adelete_sound r hT hd a b)
  · rename_i x
    cases ha with
    | cons a b =>
      cases b
      cases hc : aclear P h ats x with
      | none => simp [hc] at e
      | some h2 => simp only [hc, Option.some.injEq, Prod.mk.injEq] at e; obtain ⟨rfl, rfl⟩ := e; exact lift (aclear_sound r hc a)
  · split at e
    · rename_i l _ k n
      cases ha with
      | cons a b =>
        rw [a.flat_eq rfl]
        cases hm : afoldO amax2 (.int k n) l with
        | none => simp [hm] at e
        | some v =>
          simp only [hm, Option.some.injEq, Prod.mk.injEq] at e; obtain ⟨rfl, rfl⟩ := e
          obtain ⟨g1, g2⟩ := amax_sound (P := P) (w := w) hm rfl b
          exact lift ⟨v, w, ρ, by simpa [Builtin.max_] using g1, .flat g2, r, .refl _ _ _⟩
    · cases e
  · split at e
    · rename_i l _ k n
      cases ha with
      | cons a b =>
        rw [a.flat_eq rfl]
        cases hm : afoldO amin2 (.int k n) l with
        | none => simp [hm] at e
        | some v =>
          simp only [hm, Option.some.injEq, Prod.mk.injEq] at e; obtain ⟨rfl, rfl⟩ := e
          obtain ⟨g1, g2⟩ := amin_sound (P := P) (w := w) hm rfl b
          exact lift ⟨v, w, ρ, by simpa [Builtin.min_] using g1, .flat g2, r, .refl _ _ _⟩
    · cases e
  · cases e
def aunop (op : UnOp) (x : Value) : Option Value :=
  match op, x with
  | .neg, .int k n => some (.int k (iwrap k (0 - n)))
  | .xor, .int k n => aint .xor k (if k.signed then -1 else k.max) n
  | .not, .bool b => some (.bool !b)
  | _, _ => none
theorem aunop_sound {op : UnOp} {x x' v : Value} (e : aunop op x = some v) (hx : VR ρ x x') : (Op.unary op x').run P w = .ok v w ∧ isFlat v = true := by
  unfold aunop at e
  split at e
  · rw [hx.flat_eq rfl]; simp only [iwrap_eq, Option.some.injEq] at e; subst e; exact ⟨by simp [Op.unary, Op.intArith], rfl⟩
  · rw [hx.flat_eq rfl]
    have := aint_sound (P := P) (w := w) (t := 0) e
    rw [binOp_xor] at this
    exact ⟨this.1, this.2⟩
  · rw [hx.flat_eq rfl]; simp only [Option.some.injEq] at e; subst e; exact ⟨rfl, rfl⟩
  · cases e
def optv (f : Ev) : Option Operand → Option (Option Value)
  | none => some none
  | some x => match f x with
    | none => none
    | some v => some (some v)
def concreteT (P : Program) (t : TypeId) : Bool :=
  match P.underlying t with
  | some (.interface _) => false
  | some _ => true
  | none => false
/-- What a call goes to. -/
def acallee (P : Program) (ext : FuncId → Option Spec) (h : AH) (f : FuncId) (args : List Value) : Option ANext :=
  match P.funcs[f]? with
  | none => none
  | some fn => match fn.body with
    | some _ => some (.enter f args)
    | none => match ext f with
      | none => none
      | some sp => match sp args h with
        | none => none
        | some (v, h1) => some (.value v h1)
def aval (h : AH) : Option Value → Option ANext
  | some v => some (.value v h)
  | none => none
def avh : Option (Value × AH) → Option ANext
  | some (v, h) => some (.value v h)
  | none => none
def ah : Option AH → Option ANext
  | some h => some (.value (.tuple #[]) h)
  | none => none
/-- 'unsafe.Pointer(p)'. -/
def aunsafe (P : Program) (h : AH) (s d : TypeId) (v : Value) : Option Value :=
  match v with
  | .pointer (some ⟨n, o, none⟩) => (match P.underlying s, P.underlying d with
    | some (.pointer t), some .unsafePointer => (match P.info? t with
      | none => none
      | some i => bif Nat.beq i.size 0 then none else
        (match h.get n with
         | some (.cells _ _ c) => (match c.get o with
           | some _ => some v
           | none => none)
         | _ => none))
    | _, _ => none)
  | _ => none
/-- 'v, ok := x.(T)', T no interface. -/
def atassert (P : Program) (t : TypeId) (v : Value) : Option Value :=
  match P.underlying t with
  | none => none
  | some (.interface _) => none
  | some _ => match azero P t with
    | none => none
    | some z => match v with
      | .nilIface => some (.tuple #[z, .bool false])
      | .iface t' u => bif Nat.beq t' t then some (.tuple #[u, .bool true]) else some (.tuple #[z, .bool false])
      | _ => none
/-- What is known of unknown numbers and slices: a table. -/
def SYMB : Nat := 1073741824
def opIdx : BinOp → Nat
  | .add => 0 | .sub => 1 | .mul => 2 | .quo => 3 | .rem => 4 | .and => 5 | .or => 6 | .xor => 7 | .shl => 8 | .shr => 9 | .andNot => 10
  | .eql => 11 | .neq => 12 | .lss => 13 | .leq => 14 | .gtr => 15 | .geq => 16
def asym (ext : FuncId → Option Spec) (k : Nat) (l : List Value) : Option Value :=
  match ext (Nat.add SYMB k) with
  | none => none
  | some sp => match sp l ⟨0, .nil⟩ with
    | none => none
    | some (r, _) => some r
def abinS (P : Program) (ext : FuncId → Option Spec) (op : BinOp) (t : TypeId) (xo yo : Operand) (x y : Value) : Option Value :=
  match abin P op t xo yo x y with
  | some r => some r
  | none => asym ext (opIdx op) [x, y]
def abuiltinS (P : Program) (ext : FuncId → Option Spec) (h : AH) (b : Builtin) (ats : Array TypeId) (l : List Value) : Option (Value × AH) :=
  match abuiltin P h b ats l with
  | some r => some r
  | none => match b, l with
    | .len, [x] => (match ats[0]? with
      | none => none
      | some T => match P.underlying T with
        | some (.slice _) => (match asym ext 50 [x] with
          | some r => some (r, h)
          | none => none)
        | _ => none)
    | _, _ => none
def aop (P : Program) (ext : FuncId → Option Spec) (f : Ev) (o : Oper) (h : AH) : Option ANext :=
  match o.op with
  | .move x | .assign x => aval h (f x)
  | .pick c a b => (match f c with
    | some (.bool t) => aval h (bif t then f a else f b)
    | _ => none)
  | .alloc elem => avh (aalloc P h elem)
  | .box _ x => (match f x with | some v => avh (abox h v) | none => none)
  | .build t parts => (match evps f parts.toList with | some ps => aval h (abuild P t ps) | none => none)
  | .buildSlice t len parts => (match evps f parts.toList with | some ps => avh (abuildSlice P h t len ps) | none => none)
  | .load t x => (match f x with | some v => aval h (aload P h t v) | none => none)
  | .store t x y => (match f x, f y with | some v, some u => ah (astore P h t v u) | _, _ => none)
  | .nilCheck x => (match f x with
    | some (.pointer (some a)) => some (.value (.pointer (some a)) h)
    | some (.func (.func g) a b) => some (.value (.func (.func g) a b) h)
    | some (.map m) => some (.value (.map m) h)
    | _ => none)
  | .binOp op t x y _ => (match f x, f y with | some v, some u => aval h (abinS P ext op t x y v u) | _, _ => none)
  | .unOp op _ x => (match f x with | some v => aval h (aunop op v) | none => none)
  | .convert s d x => (match f x with
    | some v => (match astrBytes P h s d v with
      | some (u, h1) => some (.value u h1)
      | none => match aunsafe P h s d v with
        | some u => some (.value u h)
        | none => aval h (aconvert P h s d v))
    | none => none)
  | .makeInterface t x => bif concreteT P t then (match f x with | some v => some (.value (.iface t v) h) | none => none) else none
  | .makeFunc (.func g) first cap => (match evs f first.toList, evs f cap.toList with
    | some a, some b => some (.value (.func (.func g) a.toArray b.toArray) h)
    | _, _ => none)
  | .makeMap t r => (match optv f r with | some v => avh (amakeMap P h t v) | none => none)
  | .makeSlice t l c => (match f l, f c with | some v, some u => avh (amakeSlice P h t v u) | _, _ => none)
  | .slice t x lo hi none => (match f x, optv f lo, optv f hi with | some v, some a, some b => aval h (asl P h t v a b) | _, _, _ => none)
  | .fieldAddr s x k => (match f x with | some v => aval h (afieldAt P s v k) | none => none)
  | .field t x k => (match f x with | some v => aval h (afield P t v k) | none => none)
  | .indexAddr t x i => (match f x, f i with | some v, some u => aval h (aindexAt P t v u) | _, _ => none)
  | .index t x i => (match f x, f i with | some v, some u => aval h (aindex P t v u) | _, _ => none)
  | .lookup t x i ok => (match f x, f i with | some v, some u => aval h (alookup P h t v u ok) | _, _ => none)
  | .mapUpdate t m k x | .insert t m k x => (match f m, f k, f x with | some a, some b, some c => ah (amapUpdate P h t a b c) | _, _, _ => none)
  | .range t x => (match f x with | some v => avh (arange P h t v) | none => none)
  | .next it s => (match f it with | some v => avh (anext h v s) | none => none)
  | .typeAssert x _ t true => (match f x with | some v => aval h (atassert P t v) | none => none)
  | .extract t i => (match f t with
    | some (.tuple vs) => aval h (nth vs.toList i)
    | _ => none)
  | .call { callee := .builtin b, args, argTypes } => (match evs f args.toList with | some l => avh (abuiltinS P ext h b argTypes l) | none => none)
  | .call { callee := .value x, args, .. } => (match f x, evs f args.toList with
    | some (.func (.func g) first cap), some l => acallee P ext h g (first.toList ++ l ++ cap.toList)
    | _, _ => none)
  | .panic x => (match f x with
    | some (.iface t v) => some (.panic (.iface t v))
    | _ => none)
  | .defer { callee := .value x, args, .. } => (match f x, evs f args.toList with
    | some (.func (.func g) first cap), some l => (match P.funcs[g]? with
      | some fn => (match fn.body with
        | some _ => some (.defer g (first.toList ++ l ++ cap.toList))
        | none => none)
      | none => none)
    | _, _ => none)
  | _ => none
/-- The same, by an operation's kind first. -/
def acallQ (c : Call) (P : Program) (ext : FuncId → Option Spec) (f : Ev) (h : AH) : Option ANext :=
  match c.callee with
  | .builtin b => (match evs f c.args.toList with | some l => avh (abuiltinS P ext h b c.argTypes l) | none => none)
  | .value x => (match f x, evs f c.args.toList with
    | some (.func (.func g) first cap), some l => acallee P ext h g (first.toList ++ l ++ cap.toList)
    | _, _ => none)
  | _ => none
def adeferQ (c : Call) (P : Program) (f : Ev) : Option ANext :=
  match c.callee with
  | .value x => (match f x, evs f c.args.toList with
    | some (.func (.func g) first cap), some l => (match P.funcs[g]? with
      | some fn => (match fn.body with
        | some _ => some (.defer g (first.toList ++ l ++ cap.toList))
        | none => none)
      | none => none)
    | _, _ => none)
  | _ => none
def amakeFuncQ (fn : Fn) (first cap : Array Operand) (f : Ev) (h : AH) : Option ANext :=
  match fn with
  | .func g => (match evs f first.toList, evs f cap.toList with
    | some a, some b => some (.value (.func (.func g) a.toArray b.toArray) h)
    | _, _ => none)
  | _ => none
def asliceQ (mx : Option Operand) (t : TypeId) (x : Operand) (lo hi : Option Operand) (P : Program) (f : Ev) (h : AH) : Option ANext :=
  match mx with
  | none => (match f x, optv f lo, optv f hi with | some v, some a, some b => aval h (asl P h t v a b) | _, _, _ => none)
  | _ => none
def apickQ (c a b : Operand) (f : Ev) (h : AH) : Option ANext := match f c with
    | some (.bool t) => aval h (bif t then f a else f b)
    | _ => none
def abinQ (op : BinOp) (t : TypeId) (x y : Operand) (P : Program) (ext : FuncId → Option Spec) (f : Ev) (h : AH) : Option ANext := match f x, f y with | some v, some u => aval h (abinS P ext op t x y v u) | _, _ => none
def anilQ (x : Operand) (f : Ev) (h : AH) : Option ANext := match f x with
    | some (.pointer (some a)) => some (.value (.pointer (some a)) h)
    | some (.func (.func g) a b) => some (.value (.func (.func g) a b) h)
    | some (.map m) => some (.value (.map m) h)
    | _ => none
def aconvQ (s d : TypeId) (x : Operand) (P : Program) (f : Ev) (h : AH) : Option ANext := match f x with
    | some v => (match astrBytes P h s d v with
      | some (u, h1) => some (.value u h1)
      | none => match aunsafe P h s d v with
        | some u => some (.value u h)
        | none => aval h (aconvert P h s d v))
    | none => none
def aun1 (x : Operand) (f : Ev) (k : Value → Option ANext) : Option ANext := match f x with | some v => k v | none => none
def aun2 (x y : Operand) (f : Ev) (k : Value → Value → Option ANext) : Option ANext := match f x, f y with | some v, some u => k v u | _, _ => none
def aextQ (t : Operand) (i : Nat) (f : Ev) (h : AH) : Option ANext := match f t with
    | some (.tuple vs) => aval h (nth vs.toList i)
    | _ => none
def apanQ (x : Operand) (f : Ev) : Option ANext := match f x with
    | some (.iface t v) => some (.panic (.iface t v))
    | _ => none
def ainsQ (t : TypeId) (m k x : Operand) (P : Program) (f : Ev) (h : AH) : Option ANext := match f m, f k, f x with | some a, some b, some c => ah (amapUpdate P h t a b c) | _, _, _ => none
abbrev OpRun := Program → (FuncId → Option Spec) → Ev → AH → Option ANext
def aopF (op : Op) : OpRun :=
  Op.rec (motive := fun _ => OpRun)
    (fun x => fun _ _ f h => aval h (f x))
    (fun x => fun _ _ f h => aval h (f x))
    (fun c a b => fun _ _ f h => apickQ c a b f h)
    (fun elem => fun P _ _ h => avh (aalloc P h elem))
    (fun _ x => fun _ _ f h => aun1 x f fun v => avh (abox h v))
    (fun t parts => fun P _ f h => (match evps f parts.toList with | some ps => aval h (abuild P t ps) | none => none))
    (fun t len parts => fun P _ f h => (match evps f parts.toList with | some ps => avh (abuildSlice P h t len ps) | none => none))
    (fun t m k x => fun P _ f h => ainsQ t m k x P f h)
    (fun t x => fun P _ f h => aun1 x f fun v => aval h (aload P h t v))
    (fun t x y => fun P _ f h => aun2 x y f fun v u => ah (astore P h t v u))
    (fun _ => fun _ _ _ _ => none)
    (fun _ => fun _ _ _ _ => none)
    (fun x => fun _ _ f h => anilQ x f h)
    (fun op t x y _ => fun P ext f h => abinQ op t x y P ext f h)
    (fun op _ x => fun _ _ f h => aun1 x f fun v => aval h (aunop op v))
    (fun s d x => fun P _ f h => aconvQ s d x P f h)
    (fun _ _ => fun _ _ _ _ => none)
    (fun t x => fun P _ f h => bif concreteT P t then aun1 x f (fun v => some (.value (.iface t v) h)) else none)
    (fun fn first cap => fun _ _ f h => amakeFuncQ fn first cap f h)
    (fun t r => fun P _ f h => (match optv f r with | some v => avh (amakeMap P h t v) | none => none))
    (fun _ _ => fun _ _ _ _ => none)
    (fun t l c => fun P _ f h => aun2 l c f fun v u => avh (amakeSlice P h t v u))
    (fun t x lo hi mx => fun P _ f h => asliceQ mx t x lo hi P f h)
    (fun s x k => fun P _ f h => aun1 x f fun v => aval h (afieldAt P s v k))
    (fun t x k => fun P _ f h => aun1 x f fun v => aval h (afield P t v k))
    (fun t x i => fun P _ f h => aun2 x i f fun v u => aval h (aindexAt P t v u))
    (fun t x i => fun P _ f h => aun2 x i f fun v u => aval h (aindex P t v u))
    (fun t x i ok => fun P _ f h => aun2 x i f fun v u => aval h (alookup P h t v u ok))
    (fun t m k x => fun P _ f h => ainsQ t m k x P f h)
    (fun _ _ _ => fun _ _ _ _ => none)
    (fun _ _ _ _ => fun _ _ _ _ => none)
    (fun t x => fun P _ f h => aun1 x f fun v => avh (arange P h t v))
    (fun it s => fun _ _ f h => aun1 it f fun v => avh (anext h v s))
    (fun _ => fun _ _ _ _ => none)
    (fun x _ t ok => fun P _ f h => bif ok then aun1 x f (fun v => aval h (atassert P t v)) else none)
    (fun t i => fun _ _ f h => aextQ t i f h)
    (fun c => fun P ext f h => acallQ c P ext f h)
    (fun _ => fun _ _ _ _ => none)
    (fun c => fun P _ f _ => adeferQ c P f)
    (fun x => fun _ _ f _ => apanQ x f)
    (fun _ _ => fun _ _ _ _ => none)
    (fun _ _ _ => fun _ _ _ _ => none)
    (fun _ _ => fun _ _ _ _ => none)
    op
def aopQ (P : Program) (ext : FuncId → Option Spec) (f : Ev) (o : Oper) (h : AH) : Option ANext := aopF o.op P ext f h
theorem aopQ_eq (P : Program) (ext : FuncId → Option Spec) (f : Ev) (o : Oper) (h : AH) : aopQ P ext f o h = aop P ext f o h := by
  obtain ⟨dst, op, type, pos, after, guard⟩ := o
  cases op with
  | slice t x lo hi mx => cases mx <;> rfl
  | typeAssert x s t ok => cases ok <;> rfl
  | call c => obtain ⟨callee, args, ats⟩ := c; cases callee <;> rfl
  | defer c => obtain ⟨callee, args, ats⟩ := c; cases callee <;> rfl
  | makeFunc fn a b => cases fn <;> rfl
  | _ => rfl
/-- What the table must be. -/
structure SymOk (P : Program) (G : GS) (ext : FuncId → Option Spec) : Prop where
  b : ∀ op v u r, asym ext (opIdx op) [v, u] = some r → ∀ (ρ : Rho) (w : World) t xo yo v' u', GlobOk G ρ → VR ρ v v' → VR ρ u u' →
    ∃ r', (do eqGuard op t xo yo v' u'; binOp op t v' u').run P w = .ok r' w ∧ VR ρ r r'
  l : ∀ v r, asym ext 50 [v] = some r → ∀ (ρ : Rho) (w : World) ats ty cs v' T el, ats[0]? = some T → P.underlying T = some (.slice el) → GlobOk G ρ → VR ρ v v' →
    ∃ r', (builtin .len ats ty cs #[v']).run P w = .ok (.value r') w ∧ VR ρ r r'
theorem asym_none {ext : FuncId → Option Spec} (h : ∀ f, SYMB ≤ f → ext f = none) (k : Nat) (l : List Value) : asym ext k l = none := by
  have e : ext (Nat.add SYMB k) = none := h _ (Nat.le_add_right _ _)
  simp only [asym, e]
theorem SymOk.none {G : GS} {ext : FuncId → Option Spec} (h : ∀ f, SYMB ≤ f → ext f = Option.none) : SymOk P G ext :=
  ⟨fun op v u r e => (by rw [asym_none h] at e; cases e), fun v r e => (by rw [asym_none h] at e; cases e)⟩
theorem abuiltinS_sound {G : GS} {ext : FuncId → Option Spec} (sy : SymOk P G ext) (hG : GlobOk G ρ) {h1 : AH} (r : Rel X ρ h w) (hB : Room X w h1) {b : Builtin} {ats : Array TypeId} {ty : TypeId} {cs : Array Bool} {args args' : List Value} {u : Value}
    (e : abuiltinS P ext h b ats args = some (u, h1)) (ha : VRL ρ args args') :
    ∃ u' w' ρ', (builtin b ats ty cs args'.toArray).run P w = .ok (.value u') w' ∧ VR ρ' u u' ∧ Rel X ρ' h1 w' ∧ Ext ρ h w ρ' h1 w' := by
  unfold abuiltinS at e
  split at e
  · rename_i p hp; cases e; exact abuiltin_sound r hB hp ha
  · split at e
    · split at e
      · cases e
      · rename_i x T hT
        split at e
        · rename_i el hu
          split at e
          · rename_i v hv
            cases e
            cases ha with
            | cons a b =>
              cases b
              obtain ⟨r', q1, q2⟩ := sy.l _ _ hv ρ w ats ty cs _ T el hT hu hG a
              exact ⟨r', w, ρ, q1, q2, r, .refl _ _ _⟩
          · cases e
        · cases e
    · cases e
/-- What is asked of the program, and of the functions that are taken by their contracts. -/
structure Okay (P : Program) (G : GS) (ext : FuncId → Option Spec) : Prop where
  sym : SymOk P G ext
  next : ∀ (f : FuncId) (sp : Spec), ext f = some sp → ∀ args h v h1, sp args h = some (v, h1) → h.next ≤ h1.next
  names : ∀ (f : FuncId) (fn : Func), P.funcs[f]? = some fn → (fn.name == "runtime.NumGoroutine") = false
  ext : ∀ (f : FuncId) (fn : Func) (sp : Spec), P.funcs[f]? = some fn → fn.body = none → ext f = some sp → ∀ args h v h1, sp args h = some (v, h1) → ∀ (X : Cx) ρ w args', X.G = G → Rel X ρ h w → Room X w h1 → VRL ρ args args' →
    ∃ v' w' ρ', (callFunc f args'.toArray).run P w = .ok (.value v') w' ∧ VR ρ' v v' ∧ Rel X ρ' h1 w' ∧ Ext ρ h w ρ' h1 w'
end
end Go.VII
