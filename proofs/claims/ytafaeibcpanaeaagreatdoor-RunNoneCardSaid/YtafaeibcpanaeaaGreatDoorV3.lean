/- Operations that turn nothing: over the heap of names, and in the model. -/
import Derived.Test.YtafaeibcpanaeaaGreatDoorV2
import Derived.Laws.StructEq
import Derived.Laws.BytesString
import Derived.Laws.BytesArg
namespace Go.VII
noncomputable section
variable {P : Program} {X : Cx} {ρ : Rho} {h : AH} {w : World}
abbrev Ev := Operand → Option Value
def EvR (ρ : Rho) (f : Ev) (g : Operand → Value) : Prop := ∀ x v, f x = some v → VR ρ v (g x)
def evs (f : Ev) : List Operand → Option (List Value)
  | [] => some []
  | x :: l => match f x with
    | none => none
    | some v => match evs f l with
      | none => none
      | some r => some (v :: r)
theorem evs_sound {f : Ev} {g : Operand → Value} (hf : EvR ρ f g) : ∀ {l : List Operand} {r : List Value}, evs f l = some r → VRL ρ r (l.map g)
  | [], r, e => by simp only [evs, Option.some.injEq] at e; subst e; exact .nil
  | x :: l, r, e => by
    simp only [evs] at e
    cases hx : f x with
    | none => simp [hx] at e
    | some v =>
      simp only [hx] at e
      cases hl : evs f l with
      | none => simp [hl] at e
      | some r' => simp only [hl, Option.some.injEq] at e; subst e; exact .cons (hf x v hx) (evs_sound hf hl)
/-! ### Numbers -/
def inKind (k : IntKind) (n : Int) : Bool :=
  match k, n with
  | .i64, .ofNat m => Nat.blt m 9223372036854775808
  | .i64, .negSucc m => Nat.blt m 9223372036854775808
  | .u64, .ofNat m => Nat.blt m 18446744073709551616
  | .u8, .ofNat m => Nat.blt m 256
  | .u32, .ofNat m => Nat.blt m 4294967296
  | _, _ => false
def iwrap (k : IntKind) (n : Int) : Int := bif inKind k n then n else k.wrap n
theorem iwrap_eq (k : IntKind) (n : Int) : iwrap k n = k.wrap n := by
  unfold iwrap
  cases hk : inKind k n with
  | false => rfl
  | true =>
    simp only [cond_true]
    have p64 : (2 : Int) ^ 64 = 18446744073709551616 := rfl
    have p63 : (2 : Int) ^ (64 - 1) = 9223372036854775808 := rfl
    have p8 : (2 : Int) ^ 8 = 256 := rfl
    have p32 : (2 : Int) ^ 32 = 4294967296 := rfl
    cases k <;> cases n <;> simp only [inKind, Bool.false_eq_true] at hk <;> have hlt := (blt_iff _ _).1 hk <;>
      simp only [IntKind.wrap, IntKind.bits, IntKind.signed, p64, p63, p8, p32, Bool.true_and, Bool.false_and, Bool.false_eq_true, if_false, decide_eq_true_eq, Int.ofNat_eq_natCast, Int.negSucc_eq] <;>
      first | (split <;> omega) | omega
def aint (op : BinOp) (k : IntKind) (a b : Int) : Option Value :=
  match op with
  | .add => some (.int k (iwrap k (a + b)))
  | .sub => some (.int k (iwrap k (a - b)))
  | .mul => some (.int k (iwrap k (a * b)))
  | .quo => if b = 0 then none else some (.int k (iwrap k (a.tdiv b)))
  | .rem => if b = 0 then none else some (.int k (a.tmod b))
  | .and => some (.int k (k.wrap (BitVec.ofInt k.bits a &&& BitVec.ofInt k.bits b).toNat))
  | .or => some (.int k (k.wrap (BitVec.ofInt k.bits a ||| BitVec.ofInt k.bits b).toNat))
  | .xor => some (.int k (k.wrap (BitVec.ofInt k.bits a ^^^ BitVec.ofInt k.bits b).toNat))
  | .andNot => some (.int k (k.wrap (BitVec.ofInt k.bits a &&& ~~~ BitVec.ofInt k.bits b).toNat))
  | .eql => some (.bool (a == b))
  | .neq => some (.bool (a != b))
  | .lss => some (.bool (decide (a < b)))
  | .leq => some (.bool (decide (a ≤ b)))
  | .gtr => some (.bool (decide (a > b)))
  | .geq => some (.bool (decide (a ≥ b)))
  | _ => none
theorem aint_sound {op : BinOp} {t : TypeId} {k : IntKind} {a b : Int} {v : Value} (e : aint op k a b = some v) : (binOp op t (.int k a) (.int k b)).run P w = .ok v w ∧ isFlat v = true := by
  cases op <;> simp only [aint, iwrap_eq, Option.some.injEq, reduceCtorEq] at e <;> first
    | (subst e; exact ⟨by simp [binOp, Op.intArith, Op.intCmp, Op.intBits], rfl⟩)
    | (split at e
       · cases e
       · rename_i hb; simp only [Option.some.injEq] at e; subst e; exact ⟨by simp [binOp, Op.intDiv, hb], rfl⟩)
def strEq : List UInt8 → List UInt8 → Bool
  | [], [] => true
  | a :: x, b :: y => Nat.beq a.toNat b.toNat && strEq x y
  | _, _ => false
theorem strEq_eq : ∀ (x y : List UInt8), strEq x y = (x == y)
  | [], [] => rfl
  | [], _ :: _ => rfl
  | _ :: _, [] => rfl
  | a :: x, b :: y => by
    have ha : Nat.beq a.toNat b.toNat = (a == b) := by
      rw [Bool.eq_iff_iff, beq_tt]; simp [UInt8.toNat_inj]
    simp [strEq, ha, strEq_eq x y]
def astr (op : BinOp) (x y : ByteArray) : Option Value :=
  match op with
  | .add => bif Nat.blt (x.size + y.size) 9223372036854775808 then some (.string (x ++ y)) else none
  | .eql => some (.bool (strEq x.data.toList y.data.toList))
  | .neq => some (.bool !(strEq x.data.toList y.data.toList))
  | .lss => some (.bool (Op.bytesLess x.data.toList y.data.toList))
  | .leq => some (.bool (Op.bytesLess x.data.toList y.data.toList || strEq x.data.toList y.data.toList))
  | .gtr => some (.bool !(Op.bytesLess x.data.toList y.data.toList || strEq x.data.toList y.data.toList))
  | .geq => some (.bool !(Op.bytesLess x.data.toList y.data.toList))
  | _ => none
theorem astr_sound {op : BinOp} {t : TypeId} {x y : ByteArray} {v : Value} (e : astr op x y = some v) : (binOp op t (.string x) (.string y)).run P w = .ok v w ∧ isFlat v = true := by
  have hx : x.toList = x.data.toList := ByteArray.toList_eq _
  have hy : y.toList = y.data.toList := ByteArray.toList_eq _
  have hb : binOp op t (.string x) (.string y) = Op.stringOp op x y := by cases op <;> rfl
  rw [hb]
  unfold Op.stringOp
  rw [hx, hy]
  cases op <;> simp only [astr, strEq_eq, Option.some.injEq, reduceCtorEq] at e
  case add =>
    cases hs : Nat.blt (x.size + y.size) 9223372036854775808 with
    | false => simp [hs] at e
    | true =>
      simp only [hs, cond_true, Option.some.injEq] at e; subst e
      have := (blt_iff _ _).1 hs
      refine ⟨?_, rfl⟩
      have hn : ¬ (((x.size + y.size : Nat) : Int) > IntKind.i64.max) := by simp [IntKind.max_i64]; omega
      simp only [hn, if_false]; rfl
  all_goals (subst e; exact ⟨rfl, rfl⟩)
def ashift (op : BinOp) (k : IntKind) (a b : Int) : Option Value :=
  if b < 0 then none else
  match op with
  | .shl => some (.int k (iwrap k (a * 2 ^ (min b.toNat k.bits))))
  | .shr => some (.int k (a.fdiv (2 ^ (min b.toNat k.bits))))
  | _ => none
/-! ### Equality -/
def ldrop (n : Nat) (l : List Value) : List Value :=
  Nat.rec (motive := fun _ => List Value → List Value) (fun l => l) (fun _ ih l => List.rec (motive := fun _ => List Value) [] (fun _ t _ => ih t) l) n l
def ltake (n : Nat) (l : List Value) : List Value :=
  Nat.rec (motive := fun _ => List Value → List Value) (fun _ => []) (fun _ ih l => List.rec (motive := fun _ => List Value) [] (fun v t _ => v :: ih t) l) n l
theorem ldrop_eq : ∀ (n : Nat) (l : List Value), ldrop n l = l.drop n
  | 0, l => by rw [List.drop_zero]; rfl
  | n + 1, [] => by rw [List.drop_nil]; rfl
  | n + 1, v :: l => by rw [List.drop_succ_cons, ← ldrop_eq n l]; rfl
theorem ltake_eq : ∀ (n : Nat) (l : List Value), ltake n l = l.take n
  | 0, l => by rw [List.take_zero]; rfl
  | n + 1, [] => by rw [List.take_nil]; rfl
  | n + 1, v :: l => by rw [List.take_succ_cons, ← ltake_eq n l]; rfl
def apart (P : Program) (t : TypeId) (cs : Array Value) (off : Nat) : Option Value :=
  match P.underlying t with
  | none => none
  | some d => bif isAggD d then
      (match P.info? t with
       | none => none
       | some i => some (.agg (ltake i.size (ldrop off cs.toList)).toArray))
    else nth cs.toList off
theorem ltake_extract (cs : Array Value) (off n : Nat) : (ltake n (ldrop off cs.toList)).toArray = cs.extract off (off + n) := by
  rw [ltake_eq, ldrop_eq]
  have := List.extract_toArray (l := cs.toList) (start := off) (stop := off + n)
  rw [List.extract_eq_take_drop, Array.toArray_toList, Nat.add_sub_cancel_left] at this
  rw [this]
theorem VRL.extract {l l' : List Value} (hl : VRL ρ l l') (a b : Nat) : VRL ρ (l.toArray.extract a b).toList (l'.toArray.extract a b).toList := by
  simp only [List.extract_toArray, List.extract_eq_take_drop]
  refine VRL.ofGet (by simp [hl.length]) fun i v hv => ?_
  simp only [List.getElem?_take, List.getElem?_drop] at hv ⊢
  by_cases hi : i < b - a
  · simp only [hi, if_true] at hv ⊢; exact hl.get _ v hv
  · simp [hi] at hv
theorem apart_sound {t : TypeId} {cs cs' : Array Value} {off : Nat} {v : Value} (e : apart P t cs off = some v) (hc : VRL ρ cs.toList cs'.toList) : ∃ v', (part t cs' off).run P w = .ok v' w ∧ VR ρ v v' := by
  unfold apart at e
  simp only [ltake_extract, nth_eq, Array.getElem?_toList] at e
  cases hu : P.underlying t with
  | none => simp [hu] at e
  | some d =>
    simp only [hu] at e
    have ha := run_isAgg (w := w) hu
    cases hd : isAggD d with
    | true =>
      simp only [hd, cond_true] at e
      rw [hd] at ha
      cases hi : P.info? t with
      | none => simp [hi] at e
      | some i =>
        simp only [hi, Option.some.injEq] at e; subst e
        exact ⟨.agg (cs'.extract off (off + i.size)), by simp [part, ha, run_sizeOf hi], .agg (by simpa using hc.extract off (off + i.size))⟩
    | false =>
      simp only [hd, cond_false] at e
      rw [hd] at ha
      obtain ⟨v', h1, h2⟩ := hc.get off v (by simpa using e)
      have h1' : cs'[off]? = some v' := by simpa using h1
      exact ⟨v', by simp [part, ha, h1'], h2⟩
def aeqFields (P : Program) (q : TypeId → Value → Value → Option Bool) (xs ys : Array Value) : List Field → Option Bool
  | [] => some true
  | f :: fs =>
    if f.name = "_" then aeqFields P q xs ys fs else
    match apart P f.type xs f.offset with
    | none => none
    | some a => match apart P f.type ys f.offset with
      | none => none
      | some b => match q f.type a b with
        | none => none
        | some r => bif r then aeqFields P q xs ys fs else some false
def aeq (P : Program) : Nat → TypeId → Value → Value → Option Bool
  | 0, _, _, _ => none
  | d + 1, t, x, y =>
    match P.underlying t with
    | none => none
    | some D => match D, x, y with
      | .bool, .bool a, .bool b => some (a == b)
      | .int _, .int k a, .int k' b => if k = k' then some (a == b) else none
      | .string, .string a, .string b => some (strEq a.data.toList b.data.toList)
      | .pointer _, .pointer none, .pointer b => some b.isNone
      | .pointer _, .pointer (some _), .pointer none => some false
      | .slice _, .slice none _ _, .slice b _ _ => some b.isNone
      | .slice _, .slice (some _) _ _, .slice none _ _ => some false
      | .map _ _, .map none, .map b => some b.isNone
      | .map _ _, .map (some _), .map none => some false
      | .func _ _ _, .nilFunc, .nilFunc => some true
      | .func _ _ _, .nilFunc, .func _ _ _ => some false
      | .func _ _ _, .func _ _ _, .nilFunc => some false
      | .interface _, .nilIface, .nilIface => some true
      | .interface _, .nilIface, .iface _ _ => some false
      | .interface _, .iface _ _, .nilIface => some false
      | .interface _, .iface tx vx, .iface ty vy =>
        if tx ≠ ty then some false else
        (match P.info? tx with
         | none => none
         | some i => bif i.comparable then aeq P d tx vx vy else none)
      | .struct fs, .agg xs, .agg ys => bif P.stoodInHeld t then none else aeqFields P (aeq P d) xs ys fs.toList
      | _, _, _ => none
theorem aeqFields_sound {d : Nat} {q : TypeId → Value → Value → Option Bool} (hq : ∀ t x y r x' y', q t x y = some r → VR ρ x x' → VR ρ y y' → (Op.equalIn d t x' y').run P w = .ok r w) {xs ys xs' ys' : Array Value}
    (hx : VRL ρ xs.toList xs'.toList) (hy : VRL ρ ys.toList ys'.toList) : ∀ (fs : List Field) {r : Bool}, aeqFields P q xs ys fs = some r → (Op.eqFields d xs' ys' fs).run P w = .ok r w
  | [], r, e => by simp only [aeqFields, Option.some.injEq] at e; subst e; simp [Op.eqFields]
  | f :: fs, r, e => by
    unfold aeqFields at e
    by_cases hn : f.name = "_"
    · rw [if_pos hn] at e
      unfold Op.eqFields
      rw [if_neg (by simpa using hn)]
      exact aeqFields_sound hq hx hy fs e
    · rw [if_neg hn] at e
      cases ha : apart P f.type xs f.offset with
      | none => simp [ha] at e
      | some a =>
        simp only [ha] at e
        cases hb : apart P f.type ys f.offset with
        | none => simp [hb] at e
        | some b =>
          simp only [hb] at e
          cases hr : q f.type a b with
          | none => simp [hr] at e
          | some r1 =>
            simp only [hr] at e
            obtain ⟨a', a1, a2⟩ := apart_sound (w := w) ha hx
            obtain ⟨b', b1, b2⟩ := apart_sound (w := w) hb hy
            have h3 := hq _ _ _ _ _ _ hr a2 b2
            unfold Op.eqFields
            rw [if_pos hn]
            simp only [Sem.run_bind, a1, b1, h3, Result.andThen_ok]
            cases r1 with
            | true => simp only [cond_true] at e; simpa using aeqFields_sound hq hx hy fs e
            | false => simp only [cond_false, Option.some.injEq] at e; subst e; simp
theorem VR.inv_ptrNone {v' : Value} (h : VR ρ (.pointer none) v') : v' = .pointer none := h.flat_eq rfl
theorem VR.inv_ptrSome {a : Addr} {v' : Value} (h : VR ρ (.pointer (some a)) v') : ∃ a', v' = .pointer (some a') := by
  obtain ⟨n, o, sp⟩ := a
  obtain ⟨bi, _, e, _⟩ := h.pointer
  exact ⟨_, e⟩
theorem VR.inv_sliceNone {n c : Nat} {v' : Value} (h : VR ρ (.slice none n c) v') : v' = .slice none n c := by
  cases h with
  | flat _ => rfl
theorem VR.inv_sliceSome {n len cap : Nat} {o : Nat} {sp : Option Nat} {v' : Value} (h : VR ρ (.slice (some ⟨n, o, sp⟩) len cap) v') :
    ∃ bi off' cap', ρ n = some bi ∧ v' = .slice (some ⟨bi.blk, off', none⟩) len cap' ∧ len ≤ cap ∧ cap ≤ cap' ∧ sp = none ∧ (cap' = 0 ∨ (off' = bi.base + o ∧ (0 < bi.esz → off' + cap' * bi.esz ≤ bi.rsize))) := by
  cases h with
  | flat hf => simp [isFlat] at hf
  | slice a b c d => exact ⟨_, _, _, a, rfl, b, c, rfl, d⟩
theorem VR.inv_mapSome {n : Nat} {v' : Value} (h : VR ρ (.map (some n)) v') : ∃ bi, ρ n = some bi ∧ v' = .map (some bi.blk) := by
  cases h with
  | flat hf => simp [isFlat] at hf
  | map a => exact ⟨_, a, rfl⟩
theorem VR.inv_func {fn : Fn} {a b : Array Value} {v' : Value} (h : VR ρ (.func fn a b) v') : ∃ a' b', v' = .func fn a' b' ∧ VRL ρ a.toList a'.toList ∧ VRL ρ b.toList b'.toList := by
  cases h with
  | flat hf => simp [isFlat] at hf
  | func x y => exact ⟨_, _, rfl, x, y⟩
theorem VR.inv_iface {t : TypeId} {v v' : Value} (h : VR ρ (.iface t v) v') : ∃ u, v' = .iface t u ∧ VR ρ v u := by
  cases h with
  | flat hf => simp [isFlat] at hf
  | iface x => exact ⟨_, rfl, x⟩
theorem VR.inv_agg {a : Array Value} {v' : Value} (h : VR ρ (.agg a) v') : ∃ a', v' = .agg a' ∧ VRL ρ a.toList a'.toList := by
  cases h with
  | flat hf => simp [isFlat] at hf
  | agg x => exact ⟨_, rfl, x⟩
theorem VR.inv_tuple {a : Array Value} {v' : Value} (h : VR ρ (.tuple a) v') : ∃ a', v' = .tuple a' ∧ VRL ρ a.toList a'.toList := by
  cases h with
  | flat hf => simp [isFlat] at hf
  | tuple x => exact ⟨_, rfl, x⟩
theorem VR.inv_pointer {a : Option Addr} {v' : Value} (h : VR ρ (.pointer a) v') : ∃ a', v' = .pointer a' ∧ a'.isNone = a.isNone := by
  cases a with
  | none => rw [h.inv_ptrNone]; exact ⟨_, rfl, rfl⟩
  | some a => obtain ⟨a', e⟩ := h.inv_ptrSome; exact ⟨_, e, rfl⟩
theorem VR.inv_slice {a : Option Addr} {n c : Nat} {v' : Value} (h : VR ρ (.slice a n c) v') : ∃ a' c', v' = .slice a' n c' ∧ a'.isNone = a.isNone := by
  cases a with
  | none => rw [h.inv_sliceNone]; exact ⟨_, _, rfl, rfl⟩
  | some a => obtain ⟨x, y, z⟩ := a; obtain ⟨bi, o, c', _, e, _⟩ := h.inv_sliceSome; exact ⟨_, _, e, rfl⟩
theorem VR.inv_map {a : Option Nat} {v' : Value} (h : VR ρ (.map a) v') : ∃ a', v' = .map a' ∧ a'.isNone = a.isNone := by
  cases a with
  | none => rw [h.flat_eq rfl]; exact ⟨_, rfl, rfl⟩
  | some a => obtain ⟨bi, _, e⟩ := h.inv_mapSome; exact ⟨_, e, rfl⟩
theorem aeq_sound : ∀ (d : Nat) (t : TypeId) (x y : Value) (r : Bool) (x' y' : Value), aeq P d t x y = some r → VR ρ x x' → VR ρ y y' → (Op.equalIn d t x' y').run P w = .ok r w := by
  intro d
  induction d with
  | zero => intro t x y r x' y' e; simp [aeq] at e
  | succ d ih =>
    intro t x y r x' y' e hx hy
    unfold aeq at e
    cases hu : P.underlying t with
    | none => simp [hu] at e
    | some D =>
      simp only [hu] at e
      split at e
      · rw [hx.flat_eq rfl, hy.flat_eq rfl]; simp only [Option.some.injEq] at e; subst e; simp [Op.equalIn, run_underlying hu]
      · rw [hx.flat_eq rfl, hy.flat_eq rfl]
        split at e
        · rename_i hk; simp only [Option.some.injEq] at e; subst e; simp [Op.equalIn, run_underlying hu, hk]
        · cases e
      · rename_i a b
        rw [hx.flat_eq rfl, hy.flat_eq rfl]; simp only [Option.some.injEq] at e; subst e
        simp only [Op.equalIn, Sem.run_bind, run_underlying hu, Result.andThen_ok]
        rw [strEq_eq, ← ByteArray.toList_eq, ← ByteArray.toList_eq, ← beq_toListBytes]; rfl
      · rw [hx.flat_eq rfl]; obtain ⟨a', rfl, ha⟩ := hy.inv_pointer
        simp only [Option.some.injEq] at e; subst e; simp [Op.equalIn, run_underlying hu, ha]
      · rw [hy.flat_eq rfl]; obtain ⟨a', rfl⟩ := hx.inv_ptrSome
        simp only [Option.some.injEq] at e; subst e; simp [Op.equalIn, run_underlying hu]
      · rw [hx.inv_sliceNone]; obtain ⟨a', c', rfl, ha⟩ := hy.inv_slice
        simp only [Option.some.injEq] at e; subst e; simp [Op.equalIn, run_underlying hu, ha]
      · rw [hy.inv_sliceNone]; rename_i a _ _ _ _; obtain ⟨a', c', rfl, ha⟩ := hx.inv_slice
        simp only [Option.some.injEq] at e; subst e
        cases a' with
        | none => simp at ha
        | some a' => simp [Op.equalIn, run_underlying hu]
      · rw [hx.flat_eq rfl]; obtain ⟨a', rfl, ha⟩ := hy.inv_map
        simp only [Option.some.injEq] at e; subst e; simp [Op.equalIn, run_underlying hu, ha]
      · rw [hy.flat_eq rfl]; obtain ⟨bi, _, rfl⟩ := hx.inv_mapSome
        simp only [Option.some.injEq] at e; subst e; simp [Op.equalIn, run_underlying hu]
      · rw [hx.flat_eq rfl, hy.flat_eq rfl]; simp only [Option.some.injEq] at e; subst e; simp [Op.equalIn, run_underlying hu]
      · rw [hx.flat_eq rfl]; obtain ⟨a', b', rfl, _⟩ := hy.inv_func; simp only [Option.some.injEq] at e; subst e; simp [Op.equalIn, run_underlying hu]
      · rw [hy.flat_eq rfl]; obtain ⟨a', b', rfl, _⟩ := hx.inv_func; simp only [Option.some.injEq] at e; subst e; simp [Op.equalIn, run_underlying hu]
      · rw [hx.flat_eq rfl, hy.flat_eq rfl]; simp only [Option.some.injEq] at e; subst e; simp [Op.equalIn, run_underlying hu]
      · rw [hx.flat_eq rfl]; obtain ⟨u, rfl, _⟩ := hy.inv_iface; simp only [Option.some.injEq] at e; subst e; simp [Op.equalIn, run_underlying hu]
      · rw [hy.flat_eq rfl]; obtain ⟨u, rfl, _⟩ := hx.inv_iface; simp only [Option.some.injEq] at e; subst e; simp [Op.equalIn, run_underlying hu]
      · rename_i tx vx ty vy
        obtain ⟨u, rfl, hu1⟩ := hx.inv_iface; obtain ⟨u', rfl, hu2⟩ := hy.inv_iface
        split at e
        · rename_i hne; simp only [Option.some.injEq] at e; subst e; simp only [ne_eq] at hne; simp [Op.equalIn, run_underlying hu, hne]
        · rename_i hne
          have hty : tx = ty := by simpa using hne
          cases hi : P.info? tx with
          | none => simp [hi] at e
          | some i =>
            simp only [hi] at e
            cases hcm : i.comparable with
            | false => simp [hcm] at e
            | true =>
              simp only [hcm, cond_true] at e
              have := ih _ _ _ _ _ _ e hu1 hu2
              subst hty
              simp [Op.equalIn, run_underlying hu, typeInfo, hi, hcm, this]
      · rename_i fs xs ys
        obtain ⟨xs', rfl, h1⟩ := hx.inv_agg; obtain ⟨ys', rfl, h2⟩ := hy.inv_agg
        cases hh : P.stoodInHeld t with
        | true => simp [hh] at e
        | false =>
          simp only [hh, cond_false] at e
          have hfo : P.fieldsOf t = fs := by simp [Program.fieldsOf, hu]
          rw [run_equalIn_struct (w := w) d t xs' ys' (by rw [hfo]; exact hu) hh, hfo]
          exact aeqFields_sound (fun t x y r x' y' => ih t x y r x' y') h1 h2 fs.toList e
      · cases e
def isConstO : Operand → Bool
  | .const _ => true
  | _ => false
/-- Is the guard ahead of '==' quiet? -/
def guardOk (P : Program) (t : TypeId) (x y : Operand) : Value → Value → Bool
  | .nilIface, .nilIface => isConstO x || isConstO y
  | .agg _, .agg _ => !P.eqGuardType P.depth t
  | _, _ => true
theorem guardOk_sound {op : BinOp} {t : TypeId} {x y : Operand} {a b a' b' : Value} (e : guardOk P t x y a b = true) (ha : VR ρ a a') (hb : VR ρ b b') : (eqGuard op t x y a' b').run P w = .ok () w := by
  have key : ∀ a' b' : Value, (a' = .nilIface → b' = .nilIface → (isConstO x || isConstO y) = true) → (∀ c d, a' = .agg c → b' = .agg d → P.eqGuardType P.depth t = false) → (eqGuard op t x y a' b').run P w = .ok () w := by
    intro a' b' h1 h2
    unfold eqGuard
    cases op <;> first
      | rfl
      | (simp only [Bool.not_true, Bool.false_eq_true, if_false]
         split
         · have := h1 rfl rfl
           cases x <;> cases y <;> simp_all [isConstO]
         · rename_i c d
           have := h2 c d rfl rfl
           simp [this]
         · rfl)
  refine key a' b' (fun h1 h2 => ?_) fun c d h1 h2 => ?_
  · subst h1; subst h2
    cases ha; cases hb
    simpa [guardOk] using e
  · subst h1; subst h2
    cases ha with
    | flat hf => simp [isFlat] at hf
    | agg p =>
      cases hb with
      | flat hf => simp [isFlat] at hf
      | agg q => simpa [guardOk] using e
def abin (P : Program) (op : BinOp) (t : TypeId) (xo yo : Operand) (x y : Value) : Option Value :=
  match x, y with
  | .int k a, .int k' b =>
    (match op with
     | .shl | .shr => ashift op k a b
     | _ => if k = k' then aint op k a b else none)
  | .string a, .string b => astr op a b
  | .chan (some _), _ => none
  | _, .chan (some _) => none
  | _, _ =>
    match op with
    | .eql => bif guardOk P t xo yo x y then (match aeq P 10000 t x y with | some r => some (.bool r) | none => none) else none
    | .neq => bif guardOk P t xo yo x y then (match aeq P 10000 t x y with | some r => some (.bool !r) | none => none) else none
    | _ => none
theorem binOp_eq_other {t : TypeId} {x y : Value} (h1 : ∀ k a k' b, x = .int k a → y = .int k' b → False) (h2 : ∀ a b, x = .string a → y = .string b → False)
    (h3 : ∀ k a b k' c d, x = .complex k a b → y = .complex k' c d → False) (h4 : ∀ k a k' b, x = .float k a → y = .float k' b → False) :
    binOp .eql t x y = (do pure (.bool (← Op.equal t x y))) ∧ binOp .neq t x y = (do pure (.bool (!(← Op.equal t x y)))) := by
  unfold binOp
  constructor <;> (split <;> first | rfl | (exfalso; first | exact h1 _ _ _ _ rfl rfl | exact h2 _ _ rfl rfl | exact h3 _ _ _ _ _ _ rfl rfl | exact h4 _ _ _ _ rfl rfl) | simp_all)
theorem abin_sound {op : BinOp} {t : TypeId} {xo yo : Operand} {x y x' y' v : Value} (e : abin P op t xo yo x y = some v) (hx : VR ρ x x') (hy : VR ρ y y') :
    (do eqGuard op t xo yo x' y'; binOp op t x' y').run P w = .ok v w ∧ isFlat v = true := by
  unfold abin at e
  split at e
  · rw [hx.flat_eq rfl, hy.flat_eq rfl]
    rw [eqGuard_at_int]
    simp only [Sem.run_bind, Sem.run_pure, Result.andThen_ok]
    rename_i k a k' b
    have hsh : ∀ op, (op = .shl ∨ op = .shr) → ashift op k a b = some v → (binOp op t (.int k a) (.int k' b)).run P w = .ok v w ∧ isFlat v = true := by
      intro op ho e
      unfold ashift at e
      by_cases hb : b < 0
      · simp [hb] at e
      · simp only [hb, if_false] at e
        rcases ho with rfl | rfl
        · simp only [iwrap_eq, Option.some.injEq] at e; subst e; exact ⟨by simp [binOp, Op.shift, hb], rfl⟩
        · simp only [Option.some.injEq] at e; subst e; exact ⟨by simp [binOp, Op.shift, hb], rfl⟩
    split at e
    · exact hsh _ (.inl rfl) e
    · exact hsh _ (.inr rfl) e
    · split at e
      · rename_i hk; subst hk; exact aint_sound e
      · cases e
  · rw [hx.flat_eq rfl, hy.flat_eq rfl, eqGuard_at_string]
    simp only [Sem.run_bind, Sem.run_pure, Result.andThen_ok]
    exact astr_sound e
  · cases e
  · cases e
  · rename_i hc1 hc2 hni hns
    have hb := binOp_eq_other (t := t) (x := x') (y := y')
      (fun k a k' b e1 e2 => by subst e1; subst e2; cases hx <;> cases hy <;> first | exact hni _ _ _ _ rfl rfl | exact hc1 _ rfl | exact hc2 _ rfl)
      (fun a b e1 e2 => by subst e1; subst e2; cases hx; cases hy; exact hns _ _ rfl rfl)
    have hc : (∀ k a b k' c d, x' = .complex k a b → y' = .complex k' c d → aeq P 10000 t x y = none) ∧ (∀ k a k' b, x' = .float k a → y' = .float k' b → aeq P 10000 t x y = none) := by
      constructor
      · intro k a b k' c d e1 e2; subst e1; subst e2; cases hx; cases hy
        simp only [aeq]; cases P.underlying t with
        | none => rfl
        | some D => cases D <;> rfl
      · intro k a k' b e1 e2; subst e1; subst e2; cases hx; cases hy
        simp only [aeq]; cases P.underlying t with
        | none => rfl
        | some D => cases D <;> rfl
    split at e
    · cases hg : guardOk P t xo yo x y with
      | false => simp [hg] at e
      | true =>
        simp only [hg, cond_true] at e
        cases hq : aeq P 10000 t x y with
        | none => simp [hq] at e
        | some r =>
          simp only [hq, Option.some.injEq] at e; subst e
          have hb' := hb (fun k a b k' c d e1 e2 => by have := hc.1 _ _ _ _ _ _ e1 e2; rw [hq] at this; cases this) (fun k a k' b e1 e2 => by have := hc.2 _ _ _ _ e1 e2; rw [hq] at this; cases this)
          rw [hb'.1]
          simp only [Sem.run_bind, guardOk_sound hg hx hy, Result.andThen_ok, Op.equal, Op.maxDepth, aeq_sound _ _ _ _ _ _ _ hq hx hy]
          exact ⟨rfl, rfl⟩
    · cases hg : guardOk P t xo yo x y with
      | false => simp [hg] at e
      | true =>
        simp only [hg, cond_true] at e
        cases hq : aeq P 10000 t x y with
        | none => simp [hq] at e
        | some r =>
          simp only [hq, Option.some.injEq] at e; subst e
          have hb' := hb (fun k a b k' c d e1 e2 => by have := hc.1 _ _ _ _ _ _ e1 e2; rw [hq] at this; cases this) (fun k a k' b e1 e2 => by have := hc.2 _ _ _ _ e1 e2; rw [hq] at this; cases this)
          rw [hb'.2]
          simp only [Sem.run_bind, guardOk_sound hg hx hy, Result.andThen_ok, Op.equal, Op.maxDepth, aeq_sound _ _ _ _ _ _ _ hq hx hy]
          exact ⟨rfl, rfl⟩
    · cases e
end
end Go.VII
