/- A region that draws its order: what is known of the canonical order, and what holds at each place. -/
import Derived.Test.YtafaeibcpanaeaaGreatDoorV17
namespace Go.VII
noncomputable section
variable {P : Program} {X : Cx} {ρ : Rho} {h : AH} {w : World} {ext : FuncId → Option Spec}
inductive Reach (ops : Array Oper) : Nat → Nat → Prop
  | edge {b j : Nat} {o : Oper} {e : Edge} : ops[j]? = some o → e ∈ o.after → Region.binds .any e = true → e.on = b → Reach ops b j
  | step {b j : Nat} {o : Oper} {e : Edge} : ops[j]? = some o → e ∈ o.after → Region.binds .any e = true → Reach ops b e.on → Reach ops b j
def Kd.late : Kd → Kd → Bool
  | .main, .main | .main, .read | .alloc, .main | .alloc, .read => true
  | _, _ => false
structure SR (P : Program) (ops : Array Oper) (i : Nat) (o : Oper) (j : Nat) (o' : Oper) : Prop where
  ne : i ≠ j
  kind : (kindOf P o).late (kindOf P o') = true → Reach ops i j
  wr : ∀ t, o.dst = some t → o'.dst ≠ some t
  see : ∀ t, o.dst = some t → t ∈ o'.looksAt ops → Reach ops i j
  saw : ∀ t, o'.dst = some t → t ∈ o.looksAt ops → Reach ops i j
structure St where
  i : Nat
  o : Oper
  f : AFr
  h : AH
  sk : Bool
  v : Value
  f' : AFr
  h' : AH
structure StOk (P : Program) (G : GS) (ext : FuncId → Option Spec) (call : CallF) (ops : Array Oper) (s : St) : Prop where
  op : ops[s.i]? = some s.o
  put : fput s.f s.o.dst s.v = some s.f'
  did : (s.sk = true ∧ awanted ops s.f s.o = some false ∧ s.v = undef ∧ s.h' = s.h) ∨
    (s.sk = false ∧ awanted ops s.f s.o = some true ∧ (aop P ext (aeval G s.f) s.o s.h = some (.value s.v s.h') ∨
      ∃ g args, aop P ext (aeval G s.f) s.o s.h = some (.enter g args) ∧ call g args s.h = some (.ret s.v s.h')))
def Chain (P : Program) (G : GS) (ext : FuncId → Option Spec) (call : CallF) (ops : Array Oper) : List St → AFr → AH → AFr → AH → Prop
  | [], f, h, f', h' => f' = f ∧ h' = h
  | s :: T, f, h, f', h' => s.f = f ∧ s.h = h ∧ StOk P G ext call ops s ∧ Chain P G ext call ops T s.f' s.h' f' h'
/-- The object that a step makes. -/
def Made (P : Program) (s : St) (n : Nat) (o : AObj) : Prop := kindOf P s.o = .alloc ∧ s.sk = false ∧ n = s.h.next ∧ s.h'.get n = some o
section
variable {G : GS} {call : CallF} {ops : Array Oper}
theorem Chain.split {A B : List St} : ∀ {f f' : AFr} {h h' : AH}, Chain P G ext call ops (A ++ B) f h f' h' → ∃ f1 h1, Chain P G ext call ops A f h f1 h1 ∧ Chain P G ext call ops B f1 h1 f' h' := by
  induction A with
  | nil => intro f f' h h' c; exact ⟨f, h, ⟨rfl, rfl⟩, c⟩
  | cons s A ih =>
    intro f f' h h' c
    obtain ⟨c1, c2, c3, c4⟩ := c
    obtain ⟨f1, h1, d1, d2⟩ := ih c4
    exact ⟨f1, h1, ⟨c1, c2, c3, d1⟩, d2⟩
theorem Chain.join {A B : List St} : ∀ {f f1 f' : AFr} {h h1 h' : AH}, Chain P G ext call ops A f h f1 h1 → Chain P G ext call ops B f1 h1 f' h' → Chain P G ext call ops (A ++ B) f h f' h' := by
  induction A with
  | nil => intro f f1 f' h h1 h' c d; obtain ⟨rfl, rfl⟩ := c; exact d
  | cons s A ih =>
    intro f f1 f' h h1 h' c d
    obtain ⟨c1, c2, c3, c4⟩ := c
    exact ⟨c1, c2, c3, ih c4 d⟩
theorem Chain.okOf {A : List St} : ∀ {f f' : AFr} {h h' : AH}, Chain P G ext call ops A f h f' h' → ∀ s ∈ A, StOk P G ext call ops s := by
  induction A with
  | nil => intro f f' h h' _ s hs; cases hs
  | cons t A ih =>
    intro f f' h h' c s hs
    obtain ⟨c1, c2, c3, c4⟩ := c
    cases hs with
    | head => exact c3
    | tail _ hm => exact ih c4 s hm
theorem StOk.next (ok : Okay P G ext) (hc : CallSound P G call) {s : St} (so : StOk P G ext call ops s) : s.h.next ≤ s.h'.next := by
  rcases so.did with ⟨_, _, _, e⟩ | ⟨_, _, e | ⟨g, args, _, e⟩⟩
  · rw [e]; exact Nat.le_refl _
  · exact aop_next ok e
  · exact (hc _ _ _ _ e).2
theorem fput_n {fr fr' : AFr} {d : Option Tmp} {v : Value} (e : fput fr d v = some fr') : fr'.n = fr.n := by
  rw [fput_def] at e
  cases d with
  | none => simp only [Option.some.injEq] at e; subst e; rfl
  | some d => simp only at e; obtain ⟨_, e2⟩ := bif_some e; simp only [Option.some.injEq] at e2; subst e2; rfl
theorem fput_d {fr fr' : AFr} {d : Option Tmp} {v : Value} (e : fput fr d v = some fr') : fr'.d = fr.d := by
  rw [fput_def] at e
  cases d with
  | none => simp only [Option.some.injEq] at e; subst e; rfl
  | some d => simp only at e; obtain ⟨_, e2⟩ := bif_some e; simp only [Option.some.injEq] at e2; subst e2; rfl
theorem fput_lt {fr fr' : AFr} {d : Tmp} {v : Value} (e : fput fr (some d) v = some fr') : d < fr.n := by
  rw [fput_def] at e
  simp only at e; obtain ⟨e1, _⟩ := bif_some e
  simp only [Bool.and_eq_true, blt_iff] at e1; exact e1.1
theorem fput_get {fr fr' : AFr} {d : Option Tmp} {v u : Value} {t : Nat} (e : fput fr d v = some fr') (hu : fr'.get t = some u) : (d = some t ∧ u = v) ∨ (d ≠ some t ∧ fr.get t = some u) := by
  rw [fput_def] at e
  cases d with
  | none => simp only [Option.some.injEq] at e; subst e; exact .inr ⟨by simp, hu⟩
  | some d =>
    simp only at e; obtain ⟨e1, e2⟩ := bif_some e
    simp only [Option.some.injEq] at e2; subst e2
    simp only [Bool.and_eq_true, blt_iff] at e1
    simp only [AFr.get] at hu ⊢
    by_cases ht : d = t
    · subst ht
      rw [Tr.get_set_same _ _ _ _ e1.2] at hu; cases hu
      exact .inl ⟨rfl, rfl⟩
    · rw [Tr.get_set_ne _ _ _ _ _ ht] at hu
      exact .inr ⟨by simpa using ht, hu⟩
theorem Chain.next (ok : Okay P G ext) (hc : CallSound P G call) {A : List St} : ∀ {f f' : AFr} {h h' : AH}, Chain P G ext call ops A f h f' h' → h.next ≤ h'.next ∧ f'.n = f.n := by
  induction A with
  | nil => intro f f' h h' c; obtain ⟨rfl, rfl⟩ := c; exact ⟨Nat.le_refl _, rfl⟩
  | cons s A ih =>
    intro f f' h h' c
    obtain ⟨rfl, rfl, c3, c4⟩ := c
    obtain ⟨i1, i2⟩ := ih c4
    exact ⟨Nat.le_trans (c3.next ok hc) i1, i2.trans (fput_n c3.put)⟩
theorem Chain.defs {A : List St} : ∀ {f f' : AFr} {h h' : AH}, Chain P G ext call ops A f h f' h' → f'.d = f.d := by
  induction A with
  | nil => intro f f' h h' c; obtain ⟨rfl, rfl⟩ := c; rfl
  | cons s A ih =>
    intro f f' h h' c
    obtain ⟨rfl, rfl, c3, c4⟩ := c
    exact (ih c4).trans (fput_d c3.put)
theorem Chain.frames {A : List St} : ∀ {f f' : AFr} {h h' : AH}, Chain P G ext call ops A f h f' h' → ∀ t v, f'.get t = some v →
    (∃ a ∈ A, a.o.dst = some t ∧ a.v = v) ∨ ((∀ a ∈ A, a.o.dst ≠ some t) ∧ f.get t = some v) := by
  induction A with
  | nil => intro f f' h h' c t v e; obtain ⟨rfl, rfl⟩ := c; exact .inr ⟨fun a ha => (by cases ha), e⟩
  | cons s A ih =>
    intro f f' h h' c t v e
    obtain ⟨rfl, rfl, c3, c4⟩ := c
    rcases ih c4 t v e with ⟨a, ha, h1, h2⟩ | ⟨h1, h2⟩
    · exact .inl ⟨a, List.mem_cons_of_mem _ ha, h1, h2⟩
    · rcases fput_get c3.put h2 with ⟨q1, q2⟩ | ⟨q1, q2⟩
      · exact .inl ⟨s, by simp, q1, q2.symm⟩
      · refine .inr ⟨fun a ha => ?_, q2⟩
        cases ha with
        | head => exact q1
        | tail _ hm => exact h1 a hm
/-- A step that is no main one. -/
theorem StOk.quiet {s : St} (so : StOk P G ext call ops s) (hk : kindOf P s.o ≠ .main) : (s.h' = s.h ∧ ∀ n o, ¬ Made P s n o) ∨
    (kindOf P s.o = .alloc ∧ s.sk = false ∧ ∃ ob, ob.own = true ∧ s.h.new ob = some (s.h.next, s.h') ∧ (∀ n o, Made P s n o ↔ n = s.h.next ∧ o = ob) ∧
      ∀ h2 : AH, h2.next = s.h.next → ∃ h3, h2.new ob = some (h2.next, h3) ∧ aop P ext (aeval G s.f) s.o h2 = some (.value s.v h3)) := by
  rcases so.did with ⟨hsk, _, _, e⟩ | ⟨hsk, _, e⟩
  · exact .inl ⟨e, fun n o hm => by have := hm.2.1; rw [hsk] at this; cases this⟩
  · cases hkk : kindOf P s.o with
    | main => exact absurd hkk hk
    | pure =>
      refine .inl ⟨?_, fun n o hm => by have := hm.1; rw [hkk] at this; cases this⟩
      rcases e with e | ⟨g, args, e, _⟩
      · obtain ⟨u, h1, _⟩ := aop_pure hkk e; simp only [ANext.value.injEq] at h1; exact h1.2
      · obtain ⟨u, h1, _⟩ := aop_pure hkk e; cases h1
    | read =>
      refine .inl ⟨?_, fun n o hm => by have := hm.1; rw [hkk] at this; cases this⟩
      rcases e with e | ⟨g, args, e, _⟩
      · obtain ⟨u, h1⟩ := aop_read hkk e; simp only [ANext.value.injEq] at h1; exact h1.2
      · obtain ⟨u, h1⟩ := aop_read hkk e; cases h1
    | alloc =>
      right
      rcases e with e | ⟨g, args, e, _⟩
      · obtain ⟨u, ob, h1, h2, h3, h4, h5⟩ := aop_alloc hkk e
        cases h2
        refine ⟨rfl, hsk, ob, h3, h4, fun n o => ?_, h5⟩
        obtain ⟨_, _, _, g1, _⟩ := AH.new_some h4
        constructor
        · rintro ⟨_, _, rfl, q⟩; rw [g1] at q; cases q; exact ⟨rfl, rfl⟩
        · rintro ⟨rfl, rfl⟩; exact ⟨hkk, hsk, rfl, g1⟩
      · obtain ⟨u, ob, h1, h2, _⟩ := aop_alloc hkk e; cases h2
theorem Made.next {s : St} (so : StOk P G ext call ops s) {n : Nat} {o : AObj} (m : Made P s n o) : n = s.h.next ∧ s.h'.next = n + 1 ∧ o.own = true := by
  rcases so.quiet (by rw [m.1]; simp) with ⟨_, h1⟩ | ⟨_, _, ob, h1, h2, h3, _⟩
  · exact absurd m (h1 n o)
  · obtain ⟨rfl, rfl⟩ := (h3 n o).1 m
    exact ⟨rfl, (AH.new_some h2).2.1, h1⟩
/-- Steps that are no main ones add what they make. -/
theorem Chain.adds {A : List St} : ∀ {f f' : AFr} {h h' : AH}, Chain P G ext call ops A f h f' h' → (∀ a ∈ A, kindOf P a.o ≠ .main) →
    (∀ n o, h'.get n = some o → h.get n = some o ∨ ∃ a ∈ A, Made P a n o) := by
  induction A with
  | nil => intro f f' h h' c _ n o e; obtain ⟨rfl, rfl⟩ := c; exact .inl e
  | cons s A ih =>
    intro f f' h h' c hA n o e
    obtain ⟨rfl, rfl, c3, c4⟩ := c
    rcases ih c4 (fun a ha => hA a (by simp [ha])) n o e with hh | ⟨a, ha, hm⟩
    · rcases c3.quiet (hA s (by simp)) with ⟨q, _⟩ | ⟨_, _, ob, _, q2, q3, _⟩
      · rw [q] at hh; exact .inl hh
      · obtain ⟨_, _, _, g1, g2⟩ := AH.new_some q2
        by_cases hn : n = s.h.next
        · subst hn; rw [g1] at hh; cases hh; exact .inr ⟨s, by simp, (q3 _ _).2 ⟨rfl, rfl⟩⟩
        · rw [g2 n hn] at hh; exact .inl hh
    · exact .inr ⟨a, by simp [ha], hm⟩
theorem Chain.lows {A : List St} : ∀ {f f' : AFr} {h h' : AH}, Chain P G ext call ops A f h f' h' → (∀ a ∈ A, kindOf P a.o ≠ .main) →
    (∀ n o, h.get n = some o → n < h.next) → ∀ n o, h'.get n = some o → n < h'.next := by
  induction A with
  | nil => intro f f' h h' c _ hl; obtain ⟨rfl, rfl⟩ := c; exact hl
  | cons s A ih =>
    intro f f' h h' c hA hl
    obtain ⟨rfl, rfl, c3, c4⟩ := c
    refine ih c4 (fun a ha => hA a (by simp [ha])) fun n o e => ?_
    rcases c3.quiet (hA s (by simp)) with ⟨q, _⟩ | ⟨_, _, ob, _, q2, q3, _⟩
    · rw [q] at e ⊢; exact hl n o e
    · obtain ⟨_, g0, _, g1, g2⟩ := AH.new_some q2
      by_cases hn : n = s.h.next
      · omega
      · rw [g2 n hn] at e; have := hl n o e; omega
theorem Chain.keeps {A : List St} : ∀ {f f' : AFr} {h h' : AH}, Chain P G ext call ops A f h f' h' → (∀ a ∈ A, kindOf P a.o ≠ .main) →
    (∀ n o, h.get n = some o → n < h.next) → (∀ n o, h.get n = some o → h'.get n = some o) ∧ (∀ a ∈ A, ∀ n o, Made P a n o → h'.get n = some o) := by
  induction A with
  | nil => intro f f' h h' c _ hl; obtain ⟨rfl, rfl⟩ := c; exact ⟨fun _ _ e => e, fun a ha => (by cases ha)⟩
  | cons s A ih =>
    intro f f' h h' c hA hl
    obtain ⟨rfl, rfl, c3, c4⟩ := c
    have one : Chain P G ext call ops [s] s.f s.h s.f' s.h' := ⟨rfl, rfl, c3, rfl, rfl⟩
    have hl' := one.lows (fun a ha => hA a (by simp at ha; subst ha; simp)) hl
    obtain ⟨i1, i2⟩ := ih c4 (fun a ha => hA a (by simp [ha])) hl'
    refine ⟨fun n o e => i1 n o ?_, fun a ha n o m => ?_⟩
    · rcases c3.quiet (hA s (by simp)) with ⟨q, _⟩ | ⟨_, _, ob, _, q2, q3, _⟩
      · rw [q]; exact e
      · obtain ⟨_, g0, _, g1, g2⟩ := AH.new_some q2
        rw [g2 n (fun hh => by have := hl n o e; omega)]; exact e
    · cases ha with
      | head => exact i1 n o m.2.2.2
      | tail _ hm => exact i2 a hm n o m
end
/-- What is known of the canonical order. -/
structure Can (P : Program) (G : GS) (ext : FuncId → Option Spec) (call : CallF) (ops : Array Oper) (T : List St) (f0 : AFr) (h0 : AH) (fE : AFr) (hE : AH) : Prop where
  chain : Chain P G ext call ops T f0 h0 fE hE
  pair : T.Pairwise fun a b => SR P ops a.i a.o b.i b.o
  cover : ∀ i, i < ops.size → ∃ s ∈ T, s.i = i
  edges : ∀ A s B, T = A ++ s :: B → ∀ e ∈ s.o.after, Region.binds .any e = true → ∃ a ∈ A, a.i = e.on
  rech : ∀ A r B m C, T = A ++ r :: (B ++ m :: C) → kindOf P r.o = .read → r.sk = false → kindOf P m.o = .main → Reach ops r.i m.i ∨ aop P ext (aeval G r.f) r.o m.h' = some (.value r.v m.h')
structure RelF (X : Cx) (ρ : Rho) (Ob : Nat → AObj → Prop) (w : World) : Prop where
  blk : ∀ n bi, ρ n = some bi → bi.blk < w.heap.size
  glob : GlobOk X.G ρ
  objs : ∀ n o, Ob n o → ∃ bi, ρ n = some bi ∧ OR ρ bi o w.heap[bi.blk]?
  own : ∀ n o bi, Ob n o → o.own = true → ρ n = some bi → X.B ≤ bi.blk ∧ ∀ m o' bj, Ob m o' → ρ m = some bj → m ≠ n → bj.blk ≠ bi.blk
  ro : ∀ n o bi, Ob n o → o.own = false → ρ n = some bi → bi.blk < X.B
def Cx.keep (X : Cx) (R : Nat → Prop) : Cx := { G := X.G, B := X.B, R := R }
theorem RelF.sub {Ob : Nat → AObj → Prop} {R : Nat → Prop} (r : RelF X ρ Ob w) (hg : ∀ n o, h.get n = some o → Ob n o) (hl : ∀ n o, h.get n = some o → n < h.next) (hd : ∀ n bi, ρ n = some bi → n < h.next ∨ R n) : Rel (X.keep R) ρ h w :=
  { low := hl
    ro := fun n o bi a b c => r.ro n o bi (hg n o a) b c
    dom := hd
    blk := r.blk
    glob := r.glob
    objs := fun n o a => r.objs n o (hg n o a)
    own := fun n o bi a b c => ⟨(r.own n o bi (hg n o a) b c).1, fun m o' bj d e f => (r.own n o bi (hg n o a) b c).2 m o' bj (hg m o' d) e f⟩ }
theorem RelF.of (r : Rel X ρ h w) : RelF X ρ (fun n o => h.get n = some o) w := ⟨r.blk, r.glob, r.objs, r.own, r.ro⟩
def Lst (listed : Array Bool) (i : Nat) : Prop := listed.getD i false = true
/-- What a slot is known to hold. -/
def FV (T : List St) (f0 : AFr) (L : Nat → Prop) (t : Nat) (v : Value) : Prop :=
  (∃ s ∈ T, L s.i ∧ s.o.dst = some t ∧ s.v = v) ∨ ((∀ s ∈ T, L s.i → s.o.dst ≠ some t) ∧ f0.get t = some v)
def Ob (P : Program) (hp : AH) (T2 : List St) (L : Nat → Prop) (n : Nat) (o : AObj) : Prop := hp.get n = some o ∨ ∃ s ∈ T2, L s.i ∧ Made P s n o
/-- What is known of the world. -/
structure Wp (X : Cx) (ρ0 : Rho) (h0 : AH) (w0 : World) (ρ : Rho) (Ob : Nat → AObj → Prop) (w : World) : Prop where
  rel : RelF X ρ Ob w
  le : ρ0.le ρ
  size : w0.heap.size ≤ w.heap.size
  frm : ∀ b, b < w0.heap.size → ¬ Owned ρ0 h0 b → w.heap[b]? = w0.heap[b]?
  ownm : ∀ n o bi, Ob n o → o.own = true → ρ n = some bi → w0.heap.size ≤ bi.blk ∨ Owned ρ0 h0 bi.blk
  tape : w.tape = w0.tape
  os : w.os = w0.os
  output : w.output = w0.output
/-- A part of the heap turns. -/
theorem Wp.turn {ρ0 ρ' : Rho} {h0 g g' : AH} {w0 w' : World} {Ob Ob' : Nat → AObj → Prop} {R : Nat → Prop} (p : Wp X ρ0 h0 w0 ρ Ob w) (hg : ∀ n o, g.get n = some o → Ob n o)
    (r' : Rel (X.keep R) ρ' g' w') (x : Ext ρ g w ρ' g' w') (hn : ∀ n o, Ob' n o → g'.get n = some o ∨ (Ob n o ∧ g.get n = none)) : Wp X ρ0 h0 w0 ρ' Ob' w' := by
  have r := p.rel
  -- what lies beside the part
  have rest : ∀ n o, Ob n o → g.get n = none → ∃ bi, ρ n = some bi ∧ ρ' n = some bi ∧ bi.blk < w.heap.size ∧ ¬ Owned ρ g bi.blk ∧ w'.heap[bi.blk]? = w.heap[bi.blk]? ∧ OR ρ bi o w.heap[bi.blk]? := by
    intro n o ho hgn
    obtain ⟨bi, b1, b2⟩ := r.objs n o ho
    have hno : ¬ Owned ρ g bi.blk := by
      rintro ⟨m, o', bj, g1, g2, g3, g4⟩
      have hmn : n ≠ m := fun e => by rw [e, g1] at hgn; cases hgn
      exact (r.own m o' bj (hg m o' g1) g2 g3).2 n o bi ho b1 hmn g4.symm
    exact ⟨bi, b1, x.le n bi b1, r.blk n bi b1, hno, x.fr _ (r.blk n bi b1) hno, b2⟩
  have apart : ∀ n o bi, g'.get n = some o → o.own = true → ρ' n = some bi → ∀ m o' bj, Ob m o' → g.get m = none → ρ' m = some bj → bj.blk ≠ bi.blk := by
    intro n o bi h1 h2 h3 m o' bj h4 h5 h6 h7
    obtain ⟨bk, c1, c2, c3, c4, _⟩ := rest m o' h4 h5
    rw [h6] at c2; cases c2
    rcases x.ownm bi.blk ⟨n, o, bi, h1, h2, h3, rfl⟩ with hh | hh
    · omega
    · exact c4 (h7 ▸ hh)
  refine { rel := ⟨r'.blk, r'.glob, fun n o h => ?_, fun n o bi h ho hb => ?_, fun n o bi h ho hb => ?_⟩, le := Rho.le_trans p.le x.le, size := Nat.le_trans p.size x.size, frm := fun b hb hno => ?_, ownm := fun n o bi h ho hb => ?_, tape := x.tape.trans p.tape, os := x.os.trans p.os, output := x.output.trans p.output }
  · rcases hn n o h with h | ⟨h, hgn⟩
    · exact r'.objs n o h
    · obtain ⟨bi, c1, c2, c3, c4, c5, c6⟩ := rest n o h hgn
      exact ⟨bi, c2, by rw [c5]; exact c6.mono x.le⟩
  · rcases hn n o h with h | ⟨h, hgn⟩
    · obtain ⟨q1, q2⟩ := r'.own n o bi h ho hb
      refine ⟨q1, fun m o' bj hm hbj hmn => ?_⟩
      rcases hn m o' hm with hm | ⟨hm, hgm⟩
      · exact q2 m o' bj hm hbj hmn
      · exact apart n o bi h ho hb m o' bj hm hgm hbj
    · obtain ⟨bk, c1, c2, c3, c4, c5, c6⟩ := rest n o h hgn
      rw [hb] at c2; cases c2
      obtain ⟨q1, q2⟩ := r.own n o bi h ho c1
      refine ⟨q1, fun m o' bj hm hbj hmn => ?_⟩
      rcases hn m o' hm with hm | ⟨hm, hgm⟩
      · cases hoo : o'.own with
        | true => exact (apart m o' bj hm hoo hbj n o bi h hgn hb).symm
        | false =>
          have := r'.ro m o' bj hm hoo hbj
          have hB : (X.keep R).B = X.B := rfl
          rw [hB] at this
          omega
      · obtain ⟨bk, d1, d2, _⟩ := rest m o' hm hgm
        rw [hbj] at d2; cases d2
        exact q2 m o' bj hm d1 hmn
  · rcases hn n o h with h | ⟨h, hgn⟩
    · exact r'.ro n o bi h ho hb
    · obtain ⟨bk, c1, c2, _⟩ := rest n o h hgn
      rw [hb] at c2; cases c2
      exact r.ro n o bi h ho c1
  · rw [x.fr b (Nat.lt_of_lt_of_le hb p.size) ?_, p.frm b hb hno]
    rintro ⟨n, o, bi, g1, g2, g3, rfl⟩
    rcases p.ownm n o bi (hg n o g1) g2 g3 with hh | hh
    · omega
    · exact hno hh
  · rcases hn n o h with h | ⟨h, hgn⟩
    · rcases x.ownm bi.blk ⟨n, o, bi, h, ho, hb, rfl⟩ with hh | ⟨m, o', bj, g1, g2, g3, g4⟩
      · exact .inl (Nat.le_trans p.size hh)
      · rw [← g4]; exact p.ownm m o' bj (hg m o' g1) g2 g3
    · obtain ⟨bk, c1, c2, _⟩ := rest n o h hgn
      rw [hb] at c2; cases c2
      exact p.ownm n o bi h ho c1
structure Inv (P : Program) (G : GS) (ext : FuncId → Option Spec) (call : CallF) (ops : Array Oper) (X : Cx) (ρ0 : Rho) (w0 : World) (T : List St) (f0 : AFr) (h0 : AH) (fE : AFr) (hE : AH)
    (L : Nat → Prop) (a : Act) (w : World) (ρ : Rho) (T1 T2 : List St) (fp : AFr) (hp : AH) : Prop where
  split : T = T1 ++ T2
  c1 : Chain P G ext call ops T1 f0 h0 fp hp
  c2 : Chain P G ext call ops T2 fp hp fE hE
  last : T1 = [] ∨ ∃ A m, T1 = A ++ [m] ∧ kindOf P m.o = .main ∧ L m.i
  late : ∀ s ∈ T2, kindOf P s.o = .main → ¬ L s.i
  down : ∀ s ∈ T, L s.i → ∀ e ∈ s.o.after, Region.binds .any e = true → L e.on
  fn : f0.n = a.tmps.size
  fr : ∀ t v, FV T f0 L t v → VR ρ v (a.tmps.getD t undef)
  defs : DR ρ f0.d a.defers
  low : ∀ n o, hp.get n = some o → n < hp.next
  dom : ∀ n bi, ρ n = some bi → n < hp.next ∨ X.R n ∨ ∃ s ∈ T2, L s.i ∧ ∃ o, Made P s n o
  doms : ∀ n bi, ρ n = some bi → ρ0 n = some bi ∨ (h0.next ≤ n ∧ n < hE.next)
  wp : Wp X ρ0 h0 w0 ρ (Ob P hp T2 L) w
end
end Go.VII
