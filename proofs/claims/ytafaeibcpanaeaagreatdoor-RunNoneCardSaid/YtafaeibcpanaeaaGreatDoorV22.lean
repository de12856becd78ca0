/- A region that draws its order: the canonical order is found, and run. -/
import Derived.Test.YtafaeibcpanaeaaGreatDoorV21
namespace Go.VII
noncomputable section
variable {P : Program} {X : Cx} {ρ : Rho} {h : AH} {w : World} {ext : FuncId → Option Spec}
variable {ops : Array Oper}
def bindsAny (e : Edge) : Bool :=
  match e.ground with
  | .textOnly _ => false
  | .gcOnly _ => false
  | _ => true
theorem binds_any (e : Edge) : Region.binds .any e = bindsAny e := by
  unfold Region.binds bindsAny
  cases e.ground <;> rfl
def bitOf (m k : Nat) : Bool := Nat.beq (Nat.land (Nat.shiftRight m k) 1) 1
theorem bitOf_eq {m k : Nat} (e : bitOf m k = true) : m.testBit k = true := by
  unfold bitOf at e
  have h1 := beq_tt.1 e
  have h2 : (m >>> k) &&& 1 = 1 := h1
  simp only [Nat.testBit, bne_iff_ne]
  rw [Nat.and_comm, h2]; simp
structure PR where
  i : Nat
  k : Kd
  d : Option Tmp
  m : Nat
  lk : List Tmp
def pfind : List PR → Nat → Option Nat
  | [], _ => none
  | p :: l, k => bif Nat.beq p.i k then some p.m else pfind l k
theorem pfind_mem : ∀ {l : List PR} {k m : Nat}, pfind l k = some m → ∃ p ∈ l, p.i = k ∧ p.m = m
  | p :: l, k, m, e => by
    simp only [pfind] at e
    cases hb : Nat.beq p.i k with
    | true => rw [hb] at e; simp only [cond_true, Option.some.injEq] at e; exact ⟨p, by simp, beq_tt.1 hb, e⟩
    | false =>
      rw [hb] at e
      obtain ⟨q, h1, h2⟩ := pfind_mem (l := l) e
      exact ⟨q, by simp [h1], h2⟩
def pmask (pre : List PR) : List Edge → Option Nat
  | [] => some 0
  | e :: l => bif bindsAny e then (match pfind pre e.on with
    | none => none
    | some m => match pmask pre l with
      | none => none
      | some r => some (Nat.lor (Nat.lor (Nat.pow 2 e.on) m) r)) else pmask pre l
theorem pmask_spec {pre : List PR} : ∀ {l : List Edge} {m : Nat}, pmask pre l = some m →
    (∀ e ∈ l, Region.binds .any e = true → ∃ p ∈ pre, p.i = e.on) ∧ ∀ b, m.testBit b = true → ∃ e ∈ l, Region.binds .any e = true ∧ (e.on = b ∨ ∃ p ∈ pre, p.i = e.on ∧ p.m.testBit b = true)
  | [], m, h => by
    simp only [pmask, Option.some.injEq] at h; subst h
    exact ⟨fun e he => (by cases he), fun b hb => by simp at hb⟩
  | e :: l, m, h => by
    simp only [pmask] at h
    cases hb : bindsAny e with
    | false =>
      rw [hb] at h
      obtain ⟨h1, h2⟩ := pmask_spec (l := l) h
      refine ⟨fun e' he' hbn => ?_, fun b hbt => ?_⟩
      · cases he' with
        | head => rw [binds_any, hb] at hbn; cases hbn
        | tail _ hm => exact h1 e' hm hbn
      · obtain ⟨e', g1, g2⟩ := h2 b hbt
        exact ⟨e', by simp [g1], g2⟩
    | true =>
      rw [hb] at h
      simp only [cond_true] at h
      split at h
      · cases h
      · rename_i m1 hm1
        split at h
        · cases h
        · rename_i r hr
          simp only [Option.some.injEq] at h; subst h
          obtain ⟨p, p1, p2, p3⟩ := pfind_mem hm1
          obtain ⟨h1, h2⟩ := pmask_spec (l := l) hr
          refine ⟨fun e' he' hbn => ?_, fun b hbt => ?_⟩
          · cases he' with
            | head => exact ⟨p, p1, p2⟩
            | tail _ hm => exact h1 e' hm hbn
          · have hbt' : ((2 ^ e.on ||| m1) ||| r).testBit b = true := hbt
            rw [Nat.testBit_or, Nat.testBit_or, Bool.or_eq_true, Bool.or_eq_true, Nat.testBit_two_pow] at hbt'
            rcases hbt' with (hq | hq) | hq
            · exact ⟨e, by simp, by rw [binds_any, hb], .inl (by simpa using hq)⟩
            · exact ⟨e, by simp, by rw [binds_any, hb], .inr ⟨p, p1, p2, by rw [p3]; exact hq⟩⟩
            · obtain ⟨e', g1, g2⟩ := h2 b hq
              exact ⟨e', by simp [g1], g2⟩
def memN (t : Nat) : List Nat → Bool
  | [] => false
  | x :: l => Nat.beq t x || memN t l
theorem memN_iff {t : Nat} : ∀ {l : List Nat}, memN t l = true ↔ t ∈ l
  | [] => by simp [memN]
  | x :: l => by simp only [memN, Bool.or_eq_true, beq_tt, memN_iff (l := l), List.mem_cons]
def seesN : Option Tmp → List Tmp → Bool
  | none, _ => false
  | some t, l => memN t l
def dneN : Option Tmp → Option Tmp → Bool
  | some a, some b => !(Nat.beq a b)
  | _, _ => true
def pok (q r : PR) : Bool :=
  !(Nat.beq q.i r.i) && dneN q.d r.d && (bitOf r.m q.i || (!(q.k.late r.k) && !(seesN q.d r.lk) && !(seesN r.d q.lk)))
def plan (P : Program) (ops : Array Oper) : List Nat → List PR → Option (List PR)
  | [], pre => some pre
  | i :: l, pre => match ops[i]? with
    | none => none
    | some o => match pmask pre o.after.toList with
      | none => none
      | some m => bif pre.all (fun q => pok q ⟨i, kindOf P o, o.dst, m, o.looksAt ops⟩) then plan P ops l (⟨i, kindOf P o, o.dst, m, o.looksAt ops⟩ :: pre) else none
def PI (P : Program) (ops : Array Oper) : List PR → Prop
  | [] => True
  | q :: pre => PI P ops pre ∧ (∃ o, ops[q.i]? = some o ∧ q.k = kindOf P o ∧ q.d = o.dst ∧ q.lk = o.looksAt ops ∧ (∀ e ∈ o.after, Region.binds .any e = true → ∃ p ∈ pre, p.i = e.on) ∧
      ∀ b, q.m.testBit b = true → Reach ops b q.i) ∧ ∀ p ∈ pre, pok p q = true
theorem PI.reach {pre : List PR} : PI P ops pre → ∀ p ∈ pre, ∀ b, p.m.testBit b = true → Reach ops b p.i := by
  induction pre with
  | nil => intro _ p hp; cases hp
  | cons q pre ih =>
    rintro ⟨h1, ⟨o, _, _, _, _, _, h2⟩, _⟩ p hp
    cases hp with
    | head => exact h2
    | tail _ hm => exact ih h1 p hm
theorem plan_PI : ∀ {l : List Nat} {pre fin : List PR}, PI P ops pre → plan P ops l pre = some fin → PI P ops fin ∧ fin.map (·.i) = l.reverse ++ pre.map (·.i)
  | [], pre, fin, hp, e => by simp only [plan, Option.some.injEq] at e; subst e; exact ⟨hp, by simp⟩
  | i :: l, pre, fin, hp, e => by
    simp only [plan] at e
    split at e
    · cases e
    · rename_i o ho
      split at e
      · cases e
      · rename_i m hm
        obtain ⟨e1, e2⟩ := bif_some e
        obtain ⟨m1, m2⟩ := pmask_spec hm
        have hpi : PI P ops (⟨i, kindOf P o, o.dst, m, o.looksAt ops⟩ :: pre) := by
          refine ⟨hp, ⟨o, ho, rfl, rfl, rfl, fun e he hb => m1 e (by simpa using he) hb, fun b hb => ?_⟩, fun p hpm => List.all_eq_true.1 e1 p hpm⟩
          obtain ⟨e, g1, g2, g3⟩ := m2 b hb
          rcases g3 with g3 | ⟨p, p1, p2, p3⟩
          · exact .edge ho (by simpa using g1) g2 g3
          · refine .step ho (by simpa using g1) g2 ?_
            rw [← p2]; exact hp.reach p p1 b p3
        obtain ⟨q1, q2⟩ := plan_PI hpi e2
        exact ⟨q1, by rw [q2]; simp⟩
theorem pok_SR {q r : PR} {o o' : Oper} (h : pok q r = true) (hk : q.k = kindOf P o) (hk' : r.k = kindOf P o') (hd : q.d = o.dst) (hd' : r.d = o'.dst) (hl : q.lk = o.looksAt ops) (hl' : r.lk = o'.looksAt ops)
    (hm : ∀ b, r.m.testBit b = true → Reach ops b r.i) : SR P ops q.i o r.i o' := by
  unfold pok at h
  simp only [Bool.and_eq_true, Bool.or_eq_true, Bool.not_eq_true', beq_ff] at h
  obtain ⟨⟨h1, h2⟩, h3⟩ := h
  have hr : bitOf r.m q.i = true → Reach ops q.i r.i := fun hh => hm _ (bitOf_eq hh)
  refine ⟨h1, fun hh => ?_, fun t ht ht' => ?_, fun t ht ht' => ?_, fun t ht ht' => ?_⟩
  · rcases h3 with h3 | ⟨⟨h3, _⟩, _⟩
    · exact hr h3
    · rw [hk, hk', hh] at h3; cases h3
  · rw [hd, hd', ht, ht'] at h2; simp [dneN] at h2
  · rcases h3 with h3 | ⟨⟨_, h3⟩, _⟩
    · exact hr h3
    · rw [hd, ht, hl'] at h3; simp only [seesN] at h3; rw [memN_iff.2 ht'] at h3; cases h3
  · rcases h3 with h3 | ⟨_, h3⟩
    · exact hr h3
    · rw [hd', ht, hl] at h3; simp only [seesN] at h3; rw [memN_iff.2 ht'] at h3; cases h3
def SRO (P : Program) (ops : Array Oper) (i j : Nat) : Prop := ∀ o o', ops[i]? = some o → ops[j]? = some o' → SR P ops i o j o'
theorem PI.pw : ∀ {pre : List PR}, PI P ops pre → (pre.map (·.i)).reverse.Pairwise (SRO P ops) ∧ ∀ A i B, (pre.map (·.i)).reverse = A ++ i :: B → ∀ o, ops[i]? = some o → ∀ e ∈ o.after, Region.binds .any e = true → e.on ∈ A
  | [], _ => ⟨by simp, fun A i B h => by simp at h⟩
  | q :: pre, h => by
    obtain ⟨h1, ⟨o, g1, g2, g3, g4, g5, g6⟩, h3⟩ := h
    obtain ⟨i1, i2⟩ := PI.pw h1
    -- each one ahead
    have each : ∀ {pre : List PR}, PI P ops pre → ∀ p ∈ pre, ∃ o, ops[p.i]? = some o ∧ p.k = kindOf P o ∧ p.d = o.dst ∧ p.lk = o.looksAt ops := by
      intro pre
      induction pre with
      | nil => intro _ p hp; cases hp
      | cons r pre ih =>
        rintro ⟨h1, ⟨o, q1, q2, q3, q4, _⟩, _⟩ p hp
        cases hp with
        | head => exact ⟨o, q1, q2, q3, q4⟩
        | tail _ hm => exact ih h1 p hm
    refine ⟨?_, fun A i B hAB o2 ho2 e he hb => ?_⟩
    · rw [List.map_cons, List.reverse_cons, List.pairwise_append]
      refine ⟨i1, by simp, fun a ha b hb => ?_⟩
      simp only [List.mem_singleton] at hb; subst hb
      simp only [List.mem_reverse, List.mem_map] at ha
      obtain ⟨p, hp, rfl⟩ := ha
      intro oa ob hoa hob
      rw [g1] at hob; cases hob
      obtain ⟨o1, q1, q2, q3, q4⟩ := each h1 p hp
      rw [q1] at hoa; cases hoa
      exact pok_SR (h3 p hp) q2 g2 q3 g3 q4 g4 g6
    · rw [List.map_cons, List.reverse_cons] at hAB
      rcases List.eq_nil_or_concat B with rfl | ⟨B', b, rfl⟩
      · have hc : A ++ [i] = (pre.map (·.i)).reverse ++ [q.i] := hAB.symm
        obtain ⟨rfl, hi⟩ := List.append_inj' hc rfl
        simp only [List.cons.injEq, and_true] at hi; subst hi
        rw [g1] at ho2; cases ho2
        obtain ⟨p, hp, hpi⟩ := g5 e he hb
        simp only [List.mem_reverse, List.mem_map]
        exact ⟨p, hp, hpi⟩
      · have hc : (A ++ i :: B') ++ [b] = (pre.map (·.i)).reverse ++ [q.i] := by rw [hAB]; simp
        obtain ⟨hx, _⟩ := List.append_inj' hc rfl
        exact i2 A i B' hx.symm o2 ho2 e he hb
/-! ### The run -/
def ctr (P : Program) (G : GS) (ext : FuncId → Option Spec) (call : CallF) (ops : Array Oper) : List Nat → AFr → AH → Option (List St × AFr × AH)
  | [], f, h => some ([], f, h)
  | i :: l, f, h => match ops[i]? with
    | none => none
    | some o => match awanted ops f o with
      | none => none
      | some false => (match fput f o.dst undef with
        | none => none
        | some f1 => match ctr P G ext call ops l f1 h with
          | none => none
          | some (T, e) => some (⟨i, o, f, h, true, undef, f1, h⟩ :: T, e))
      | some true => match aop P ext (aeval G f) o h with
        | none => none
        | some (.value v h1) => (match fput f o.dst v with
          | none => none
          | some f1 => match ctr P G ext call ops l f1 h1 with
            | none => none
            | some (T, e) => some (⟨i, o, f, h, false, v, f1, h1⟩ :: T, e))
        | some (.panic _) => none
        | some (.defer _ _) => none
        | some (.enter g args) => (match call g args h with
          | none => none
          | some (.panic _ _) => none
          | some (.ret v h1) => match fput f o.dst v with
            | none => none
            | some f1 => match ctr P G ext call ops l f1 h1 with
              | none => none
              | some (T, e) => some (⟨i, o, f, h, false, v, f1, h1⟩ :: T, e))
theorem ctr_chain {G : GS} {call : CallF} : ∀ {l : List Nat} {f fE : AFr} {h hE : AH} {T : List St}, ctr P G ext call ops l f h = some (T, fE, hE) → Chain P G ext call ops T f h fE hE ∧ T.map (·.i) = l
  | [], f, fE, h, hE, T, e => by
    simp only [ctr, Option.some.injEq, Prod.mk.injEq] at e
    obtain ⟨rfl, rfl, rfl⟩ := e
    exact ⟨⟨rfl, rfl⟩, rfl⟩
  | i :: l, f, fE, h, hE, T, e => by
    simp only [ctr] at e
    split at e
    · cases e
    · rename_i o ho
      split at e
      · cases e
      · rename_i hw
        split at e
        · cases e
        · rename_i f1 hp
          split at e
          · cases e
          · rename_i T1 e1 hc
            simp only [Option.some.injEq, Prod.mk.injEq] at e
            obtain ⟨rfl, rfl⟩ := e
            obtain ⟨c1, c2⟩ := ctr_chain hc
            exact ⟨⟨rfl, rfl, ⟨ho, hp, .inl ⟨rfl, hw, rfl, rfl⟩⟩, c1⟩, by simp [c2]⟩
      · rename_i hw
        split at e
        · cases e
        · rename_i v h1 hop
          split at e
          · cases e
          · rename_i f1 hp
            split at e
            · cases e
            · rename_i T1 e1 hc
              simp only [Option.some.injEq, Prod.mk.injEq] at e
              obtain ⟨rfl, rfl⟩ := e
              obtain ⟨c1, c2⟩ := ctr_chain hc
              exact ⟨⟨rfl, rfl, ⟨ho, hp, .inr ⟨rfl, hw, .inl hop⟩⟩, c1⟩, by simp [c2]⟩
        · cases e
        · cases e
        · rename_i g args hop
          split at e
          · cases e
          · cases e
          · rename_i v h1 hcl
            split at e
            · cases e
            · rename_i f1 hp
              split at e
              · cases e
              · rename_i T1 e1 hc
                simp only [Option.some.injEq, Prod.mk.injEq] at e
                obtain ⟨rfl, rfl⟩ := e
                obtain ⟨c1, c2⟩ := ctr_chain hc
                exact ⟨⟨rfl, rfl, ⟨ho, hp, .inr ⟨rfl, hw, .inr ⟨g, args, hop, hcl⟩⟩⟩, c1⟩, by simp [c2]⟩
/-! ### The same value -/
def vsame : Nat → Value → Value → Bool
  | 0, _, _ => false
  | _ + 1, .bool a, .bool b => (match a, b with | true, true => true | false, false => true | _, _ => false)
  | _ + 1, .int k a, .int k' b => decide (k = k') && decide (a = b)
  | _ + 1, .string a, .string b => strEq a.data.toList b.data.toList
  | _ + 1, .pointer none, .pointer none => true
  | _ + 1, .pointer (some ⟨n, o, none⟩), .pointer (some ⟨n', o', none⟩) => Nat.beq n n' && Nat.beq o o'
  | _ + 1, .slice none l c, .slice none l' c' => Nat.beq l l' && Nat.beq c c'
  | _ + 1, .slice (some ⟨n, o, none⟩) l c, .slice (some ⟨n', o', none⟩) l' c' => Nat.beq n n' && Nat.beq o o' && Nat.beq l l' && Nat.beq c c'
  | _ + 1, .map none, .map none => true
  | _ + 1, .map (some n), .map (some n') => Nat.beq n n'
  | _ + 1, .nilIface, .nilIface => true
  | _ + 1, .nilFunc, .nilFunc => true
  | k + 1, .iface t v, .iface t' v' => Nat.beq t t' && vsame k v v'
  | k + 1, .agg a, .agg b => all2 (vsame k) a.toList b.toList
  | k + 1, .tuple a, .tuple b => all2 (vsame k) a.toList b.toList
  | _, _, _ => false
where all2 (f : Value → Value → Bool) : List Value → List Value → Bool
  | [], [] => true
  | a :: l, b :: m => f a b && all2 f l m
  | _, _ => false
theorem all2_eq {f : Value → Value → Bool} (hf : ∀ a b, f a b = true → a = b) : ∀ {l m : List Value}, vsame.all2 f l m = true → l = m
  | [], [], _ => rfl
  | a :: l, b :: m, h => by
    simp only [vsame.all2, Bool.and_eq_true] at h
    rw [hf a b h.1, all2_eq hf h.2]
  | [], b :: m, h => by simp [vsame.all2] at h
  | a :: l, [], h => by simp [vsame.all2] at h
theorem strEq_same {x y : List UInt8} (h : strEq x y = true) : x = y := by
  rw [strEq_eq] at h; simpa using h
theorem vsame_eq : ∀ (k : Nat) {v u : Value}, vsame k v u = true → v = u
  | 0, v, u, h => by simp [vsame] at h
  | k + 1, v, u, h => by
    have ih : ∀ a b, vsame k a b = true → a = b := fun a b hh => vsame_eq k hh
    unfold vsame at h
    split at h
    case h_1 => cases h
    case h_2 => split at h <;> first | rfl | cases h
    case h_3 =>
      simp only [Bool.and_eq_true, decide_eq_true_eq] at h
      rw [h.1, h.2]
    case h_4 =>
      rename_i a b _
      have := strEq_same h
      have : a = b := by
        cases a; cases b
        simp only at this
        simp only [ByteArray.mk.injEq]
        exact Array.toList_inj.1 this
      rw [this]
    all_goals first
      | rfl
      | (simp only [Bool.and_eq_true, beq_tt] at h; simp only [h]; done)
      | (rename_i hk; cases hk; simp only [Bool.and_eq_true, beq_tt] at h; rw [h.1, ih _ _ h.2])
      | (rename_i hk; cases hk; have := all2_eq ih h; rw [Array.toList_inj.1 this])
      | cases h
def vsameR : Option ANext → Value → Bool
  | some (.value u _), v => vsame 6 u v
  | _, _ => false
def rck (P : Program) (G : GS) (ext : FuncId → Option Spec) (fin : List PR) : List St → List St → Bool
  | [], _ => true
  | s :: T, rs => match kindOf P s.o with
    | .main => (match rs with
      | [] => true
      | rs => match pfind fin s.i with
        | none => false
        | some m => rs.all (fun r => bitOf m r.i || vsameR (aop P ext (aeval G r.f) r.o s.h') r.v)) && rck P G ext fin T rs
    | .read => bif s.sk then rck P G ext fin T rs else rck P G ext fin T (s :: rs)
    | _ => rck P G ext fin T rs
def RcOk (P : Program) (G : GS) (ext : FuncId → Option Spec) (ops : Array Oper) (r m : St) : Prop := Reach ops r.i m.i ∨ aop P ext (aeval G r.f) r.o m.h' = some (.value r.v m.h')
theorem rck_spec {G : GS} {fin : List PR} (hp : PI P ops fin) : ∀ {T rs : List St}, (∀ r ∈ rs, kindOf P r.o = .read) → rck P G ext fin T rs = true →
    (∀ r ∈ rs, ∀ m ∈ T, kindOf P m.o = .main → RcOk P G ext ops r m) ∧ ∀ A r B m C, T = A ++ r :: (B ++ m :: C) → kindOf P r.o = .read → r.sk = false → kindOf P m.o = .main → RcOk P G ext ops r m
  | [], rs, _, _ => ⟨fun r _ m hm => (by cases hm), fun A r B m C e => by simp at e⟩
  | s :: T, rs, hrs, h => by
    -- the rest
    have goOn : ∀ rs', (∀ r ∈ rs, r ∈ rs') → (∀ r ∈ rs', kindOf P r.o = .read) → rck P G ext fin T rs' = true → (kindOf P s.o = .main → ∀ r ∈ rs, RcOk P G ext ops r s) → (kindOf P s.o = .read → s.sk = false → s ∈ rs') →
        (∀ r ∈ rs, ∀ m ∈ s :: T, kindOf P m.o = .main → RcOk P G ext ops r m) ∧ ∀ A r B m C, s :: T = A ++ r :: (B ++ m :: C) → kindOf P r.o = .read → r.sk = false → kindOf P m.o = .main → RcOk P G ext ops r m := by
      intro rs' hsub hrd hrc hmain hread
      obtain ⟨i1, i2⟩ := rck_spec hp hrd hrc
      refine ⟨fun r hr m hm hk => ?_, fun A r B m C e hk hsk hm => ?_⟩
      · cases hm with
        | head => exact hmain hk r hr
        | tail _ hm => exact i1 r (hsub r hr) m hm hk
      · cases A with
        | nil =>
          simp only [List.nil_append, List.cons.injEq] at e
          obtain ⟨rfl, rfl⟩ := e
          exact i1 s (hread hk hsk) m (by simp) hm
        | cons q A =>
          simp only [List.cons_append, List.cons.injEq] at e
          exact i2 A r B m C e.2 hk hsk hm
    simp only [rck] at h
    cases hk : kindOf P s.o with
    | main =>
      rw [hk] at h
      simp only [Bool.and_eq_true] at h
      obtain ⟨h1, h2⟩ := h
      refine goOn rs (fun _ h => h) hrs h2 (fun _ r hr => ?_) (fun hh => by rw [hk] at hh; cases hh)
      split at h1
      · cases hr
      · split at h1
        · cases h1
        · rename_i m hm
          have := List.all_eq_true.1 h1 r hr
          simp only [Bool.or_eq_true] at this
          rcases this with hh | hh
          · left
            obtain ⟨p, p1, p2, p3⟩ := pfind_mem hm
            rw [← p2]; exact hp.reach p p1 _ (by rw [p3]; exact bitOf_eq hh)
          · right
            cases ha : aop P ext (aeval G r.f) r.o s.h' with
            | none => rw [ha] at hh; simp [vsameR] at hh
            | some nx =>
              obtain ⟨u, hu⟩ := aop_read (hrs r hr) ha
              rw [ha, hu] at hh
              simp only [vsameR] at hh
              rw [hu, vsame_eq _ hh]
    | read =>
      rw [hk] at h
      cases hsk : s.sk with
      | true => rw [hsk] at h; exact goOn rs (fun _ h => h) hrs h (fun hh => by rw [hk] at hh; cases hh) (fun _ hh => by rw [hsk] at hh; cases hh)
      | false =>
        rw [hsk] at h
        refine goOn (s :: rs) (fun r hr => by simp [hr]) (fun r hr => ?_) h (fun hh => by rw [hk] at hh; cases hh) (fun _ _ => by simp)
        cases hr with
        | head => exact hk
        | tail _ hm => exact hrs r hm
    | pure => rw [hk] at h; exact goOn rs (fun _ h => h) hrs h (fun hh => by rw [hk] at hh; cases hh) (fun hh => by rw [hk] at hh; cases hh)
    | alloc => rw [hk] at h; exact goOn rs (fun _ h => h) hrs h (fun hh => by rw [hk] at hh; cases hh) (fun hh => by rw [hk] at hh; cases hh)
/-! ### The order -/
def prio (late : Bool) : Kd → Nat
  | .pure => 0
  | .read => 0
  | .main => bif late then 1 else 2
  | .alloc => bif late then 2 else 1
def rdyL (mask : Nat) : List Edge → Bool
  | [] => true
  | e :: l => bif bindsAny e then bitOf mask e.on && rdyL mask l else rdyL mask l
def scanO (P : Program) (ops : Array Oper) (late : Bool) (mask : Nat) : List Nat → Nat → Option Nat → Option Nat
  | [], _, b => b
  | i :: l, bp, b => bif bitOf mask i then scanO P ops late mask l bp b else match ops[i]? with
    | none => scanO P ops late mask l bp b
    | some o => bif rdyL mask o.after.toList then
        (match prio late (kindOf P o) with
         | 0 => some i
         | p => bif Nat.blt p bp then scanO P ops late mask l p (some i) else scanO P ops late mask l bp b)
      else scanO P ops late mask l bp b
def greedy (P : Program) (ops : Array Oper) (late : Bool) (all : List Nat) : Nat → Nat → List Nat
  | 0, _ => []
  | k + 1, mask => match scanO P ops late mask all 9 none with
    | none => []
    | some i => i :: greedy P ops late all k (Nat.lor mask (Nat.pow 2 i))
def covers (ord : List Nat) (all : List Nat) : Bool := all.all fun i => memN i ord
def planO (P : Program) (ops : Array Oper) (ord : List Nat) : Option (List Nat × List PR) :=
  match plan P ops ord [] with
  | none => none
  | some fin => bif covers ord (List.range ops.size) && Nat.ble ord.length ops.size then some (ord, fin) else none
def planOf (P : Program) (ops : Array Oper) : Option (List Nat × List PR) :=
  match planO P ops (List.range ops.size) with
  | some r => some r
  | none => match planO P ops (greedy P ops true (List.range ops.size) ops.size 0) with
    | some r => some r
    | none => planO P ops (greedy P ops false (List.range ops.size) ops.size 0)
theorem planOf_some {r : List Nat × List PR} (e : planOf P ops = some r) : ∃ ord, planO P ops ord = some r := by
  unfold planOf at e
  split at e
  · rename_i r' h; cases e; exact ⟨_, h⟩
  · split at e
    · rename_i r' h; cases e; exact ⟨_, h⟩
    · exact ⟨_, e⟩
def adr (P : Program) (G : GS) (ext : FuncId → Option Spec) : DrawF := fun call ops f h =>
  match planOf P ops with
  | none => none
  | some (ord, fin) => match ctr P G ext call ops ord f h with
    | none => none
    | some (T, f1, h1) => bif rck P G ext fin T [] then some (.normal, f1, h1) else none
theorem adr_can {G : GS} {call : CallF} {f : AFr} {res : Res} (e : adr P G ext call ops f h = some res) : ∃ T f1 h1, res = (.normal, f1, h1) ∧ Can P G ext call ops T f h f1 h1 ∧ T.length ≤ ops.size := by
  unfold adr at e
  split at e
  · cases e
  · rename_i ord fin hpl
    obtain ⟨ord', hpo⟩ := planOf_some hpl
    unfold planO at hpo
    split at hpo
    · cases hpo
    · rename_i fin' hplan
      obtain ⟨c1, c2⟩ := bif_some hpo
      simp only [Option.some.injEq, Prod.mk.injEq] at c2
      obtain ⟨rfl, rfl⟩ := c2
      simp only [Bool.and_eq_true] at c1
      obtain ⟨c1, c3⟩ := c1
      split at e
      · cases e
      · rename_i T f1 h1 hctr
        obtain ⟨e1, e2⟩ := bif_some e
        simp only [Option.some.injEq] at e2; subst e2
        obtain ⟨ch, hmap⟩ := ctr_chain hctr
        obtain ⟨hpi, hord⟩ := plan_PI (pre := []) trivial hplan
        simp only [List.map_nil, List.append_nil] at hord
        have hrev : (fin'.map (·.i)).reverse = ord' := by rw [hord]; simp
        obtain ⟨pw1, pw2⟩ := hpi.pw
        rw [hrev] at pw1 pw2
        have hopOf : ∀ s ∈ T, ops[s.i]? = some s.o := fun s hs => (ch.okOf s hs).op
        refine ⟨T, f1, h1, rfl, ⟨ch, ?_, fun i hi => ?_, fun A s B hAB ed he hb => ?_, (rck_spec hpi (fun r hr => by cases hr) e1).2⟩, ?_⟩
        · rw [← hmap, List.pairwise_map] at pw1
          exact List.Pairwise.imp_of_mem (fun {a b} ha hb hab => hab _ _ (hopOf a ha) (hopOf b hb)) pw1
        · have := List.all_eq_true.1 c1 i (by simp [hi])
          have := memN_iff.1 this
          rw [← hmap] at this
          obtain ⟨s, hs, hsi⟩ := List.mem_map.1 this
          exact ⟨s, hs, hsi⟩
        · have hs : s ∈ T := by rw [hAB]; simp
          have := pw2 (A.map (·.i)) s.i (B.map (·.i)) (by rw [← hmap, hAB]; simp) s.o (hopOf s hs) ed he hb
          obtain ⟨q, hq, hqi⟩ := List.mem_map.1 this
          exact ⟨q, hq, hqi⟩
        · have : T.length = ord'.length := by rw [← hmap]; simp
          rw [this]
          exact Nat.le_of_ble_eq_true c3
theorem adr_sound {G : GS} (ok : Okay P G ext) (hm : P.follows .mixedOrders = true) : DrawSound P G (adr P G ext) := by
  intro call hc ops f h res e
  obtain ⟨T, f1, h1, rfl, can, hlen⟩ := adr_can e
  refine ⟨fun X ρ w a id hG hf hd r hroom Q hQ => ?_, (can.chain.next ok hc).1⟩
  subst hG
  exact region_can can ok hc hm hlen hf r hroom hQ
end
end Go.VII
