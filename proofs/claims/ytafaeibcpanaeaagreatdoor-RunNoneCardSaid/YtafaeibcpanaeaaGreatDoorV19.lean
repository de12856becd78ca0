/- A region that draws its order: each next operation. -/
import Derived.Test.YtafaeibcpanaeaaGreatDoorV18
namespace Go.VII
noncomputable section
variable {P : Program} {X : Cx} {ρ : Rho} {h : AH} {w : World} {ext : FuncId → Option Spec}
variable {G : GS} {call : CallF} {ops : Array Oper} {T : List St} {f0 fE : AFr} {h0 hE : AH} {ρ0 : Rho} {w0 : World} {L : Nat → Prop} {a : Act} {T1 T2 : List St} {fp : AFr} {hp : AH}
theorem Can.parts (can : Can P G ext call ops T f0 h0 fE hE) {A B : List St} {s : St} (e : T = A ++ s :: B) : (∀ a ∈ A, SR P ops a.i a.o s.i s.o) ∧ (∀ b ∈ B, SR P ops s.i s.o b.i b.o) := by
  have := can.pair
  rw [e, List.pairwise_append] at this
  obtain ⟨_, h2, h3⟩ := this
  exact ⟨fun a ha => h3 a ha s (by simp), (List.pairwise_cons.1 h2).1⟩
theorem Can.uniq (can : Can P G ext call ops T f0 h0 fE hE) {s q : St} (hs : s ∈ T) (hq : q ∈ T) (e : q.i = s.i) : q = s := by
  obtain ⟨A, B, rfl⟩ := List.append_of_mem hs
  obtain ⟨h1, h2⟩ := can.parts rfl
  rcases List.mem_append.1 hq with hq | hq
  · exact absurd e (h1 q hq).ne
  · cases hq with
    | head => rfl
    | tail _ hm => exact absurd e.symm (h2 q hm).ne
theorem Can.okOf (can : Can P G ext call ops T f0 h0 fE hE) {s : St} (hs : s ∈ T) : StOk P G ext call ops s := can.chain.okOf s hs
theorem Can.at (can : Can P G ext call ops T f0 h0 fE hE) {j : Nat} {o : Oper} (ho : ops[j]? = some o) : ∃ s ∈ T, s.i = j ∧ s.o = o := by
  obtain ⟨s, hs, rfl⟩ := can.cover j (Array.getElem?_eq_some_iff.1 ho).1
  have := (can.okOf hs).op
  rw [ho] at this; cases this
  exact ⟨s, hs, rfl, rfl⟩
theorem Inv.rdown (can : Can P G ext call ops T f0 h0 fE hE) (inv : Inv P G ext call ops X ρ0 w0 T f0 h0 fE hE L a w ρ T1 T2 fp hp) {b j : Nat} (r : Reach ops b j) : L j → L b := by
  induction r with
  | edge ho he hb hon =>
    intro hl
    obtain ⟨s, hs, rfl, rfl⟩ := can.at ho
    rw [← hon]; exact inv.down s hs hl _ he hb
  | step ho he hb _ ih =>
    intro hl
    obtain ⟨s, hs, rfl, rfl⟩ := can.at ho
    exact ih (inv.down s hs hl _ he hb)
theorem Inv.rready (can : Can P G ext call ops T f0 h0 fE hE) (inv : Inv P G ext call ops X ρ0 w0 T f0 h0 fE hE L a w ρ T1 T2 fp hp) {s : St} (hs : s ∈ T) (hr : ∀ e ∈ s.o.after, Region.binds .any e = true → L e.on) {b : Nat} (r : Reach ops b s.i) : L b := by
  have hop := (can.okOf hs).op
  cases r with
  | edge ho he hb hon => rw [hop] at ho; cases ho; rw [← hon]; exact hr _ he hb
  | step ho he hb q => rw [hop] at ho; cases ho; exact inv.rdown can q (hr _ he hb)
theorem Inv.looks (can : Can P G ext call ops T f0 h0 fE hE) (inv : Inv P G ext call ops X ρ0 w0 T f0 h0 fE hE L a w ρ T1 T2 fp hp) {s : St} (hs : s ∈ T) (hn : ¬ L s.i) (hr : ∀ e ∈ s.o.after, Region.binds .any e = true → L e.on) :
    ∀ t ∈ s.o.looksAt ops, ∀ v, s.f.get t = some v → VR ρ v (a.tmps.getD t undef) := by
  intro t ht v hv
  obtain ⟨A, B, e⟩ := List.append_of_mem hs
  obtain ⟨p1, p2⟩ := can.parts e
  have hc := can.chain
  rw [e] at hc
  obtain ⟨f1, h1, d1, d2⟩ := hc.split
  obtain ⟨rfl, rfl, _, _⟩ := d2
  rcases d1.frames t v hv with ⟨b, hb, b1, b2⟩ | ⟨b1, b2⟩
  · have hlb : L b.i := inv.rready can hs hr ((p1 b hb).see t b1 ht)
    exact inv.fr t v (.inl ⟨b, by rw [e]; simp [hb], hlb, b1, b2⟩)
  · refine inv.fr t v (.inr ⟨fun q hq hl hd => ?_, b2⟩)
    rw [e] at hq
    rcases List.mem_append.1 hq with hq | hq
    · exact b1 q hq hd
    · cases hq with
      | head => exact hn hl
      | tail _ hm => exact hn (inv.rdown can ((p2 q hm).saw t hd ht) hl)
theorem awanted_local {fr : AFr} {o : Oper} {b : Bool} (e : awanted ops fr o = some b) (f : ∀ d ∈ o.looksAt ops, ∀ v, fr.get d = some v → VR ρ v (a.tmps.getD d undef)) : Region.wanted o (yielded ops a.tmps) = b := by
  unfold awanted at e
  unfold Region.wanted
  split at e
  · rename_i hg; simp only [Option.some.injEq] at e; subst e; simp [hg]
  · rename_i j want hg
    simp only [hg, yielded]
    cases hd : (ops[j]?).bind (·.dst) with
    | none => simp only [hd, Option.some.injEq] at e; subst e; simp
    | some d =>
      simp only [hd] at e
      have hf := f d (by simp only [Oper.looksAt, hg, hd]; simp)
      simp only [Option.bind_some]
      split at e
      · rename_i c hc
        simp only [Option.some.injEq] at e; subst e
        have := (hf _ hc).flat_eq rfl
        rw [Array.getD_eq_getD_getElem?] at this
        cases ht : a.tmps[d]? with
        | none => rw [ht] at this; simp [undef] at this
        | some u => rw [ht] at this; simp only [Option.getD_some] at this; subst this; simp
      · rename_i c hc
        simp only [Option.some.injEq] at e; subst e
        obtain ⟨c', h1, _⟩ := (hf _ hc).inv_tuple
        rw [Array.getD_eq_getD_getElem?] at h1
        cases ht : a.tmps[d]? with
        | none => simp
        | some u => rw [ht] at h1; simp only [Option.getD_some] at h1; subst h1; simp
      · cases e
open Classical in
/-- What an operation's own operands stand for. -/
noncomputable def evo (G : GS) (s : St) : Ev := fun x => if x ∈ s.o.op.operands.toList then aeval G s.f x else none
theorem evo_aop (s : St) (h : AH) : aop P ext (aeval G s.f) s.o h = aop P ext (evo G s) s.o h := aop_congr fun x hx => by simp only [evo, if_pos hx]
theorem evo_rel {s : St} (hg : GlobOk X.G ρ) (f : ∀ d ∈ s.o.looksAt ops, ∀ v, s.f.get d = some v → VR ρ v (a.tmps.getD d undef)) : EvR ρ (evo X.G s) a.eval := by
  intro x v e
  unfold evo at e
  split at e
  · rename_i hx
    cases x with
    | tmp t => exact f t (List.mem_append_left _ (List.mem_filterMap.2 ⟨.tmp t, hx, rfl⟩)) v e
    | const u =>
      simp only [aeval] at e
      obtain ⟨e1, e2⟩ := bif_some e
      simp only [Option.some.injEq] at e2; subst e2
      exact .flat e1
    | global g =>
      simp only [aeval] at e
      obtain ⟨e1, e2⟩ := bif_some e
      simp only [Option.some.injEq] at e2; subst e2
      obtain ⟨rs, hg⟩ := hg.1 g ((blt_iff _ _).1 e1)
      exact .ptr (bi := ⟨g, 0, rs, 0⟩) hg
    | func g =>
      simp only [aeval, Option.some.injEq] at e; subst e
      exact .func .nil .nil
  · cases e
/-- The slots behind an operation. -/
theorem Inv.put_fr (can : Can P G ext call ops T f0 h0 fE hE) (inv : Inv P G ext call ops X ρ0 w0 T f0 h0 fE hE L a w ρ T1 T2 fp hp) (ok : Okay P G ext) (hc : CallSound P G call) {s : St} (hs : s ∈ T) {ρ' : Rho} (hle : ρ.le ρ') {v' : Value} (hv : VR ρ' s.v v') :
    ∀ t v, FV T f0 (fun j => L j ∨ j = s.i) t v → VR ρ' v ((a.put s.o.dst v').tmps.getD t undef) := by
  intro t v hfv
  obtain ⟨A, B, e⟩ := List.append_of_mem hs
  obtain ⟨p1, p2⟩ := can.parts e
  have hcn := can.chain
  rw [e] at hcn
  obtain ⟨f1, h1, d1, d2⟩ := hcn.split
  obtain ⟨rfl, rfl, so, _⟩ := d2
  have hn := (d1.next ok hc).2
  by_cases hd : s.o.dst = some t
  · have hlt : t < a.tmps.size := by
      have hp := so.put
      rw [hd] at hp
      exact Nat.lt_of_lt_of_eq (fput_lt hp) (hn.trans inv.fn)
    have hput : (a.put s.o.dst v').tmps.getD t undef = v' := by
      rw [hd]; simp only [Act.put]
      rw [Array.getD_eq_getD_getElem?, Array.getElem?_setIfInBounds, if_pos rfl, if_pos hlt]; rfl
    rw [hput]
    rcases hfv with ⟨q, hq, _, hdq, rfl⟩ | ⟨h1, _⟩
    · rw [e] at hq
      rcases List.mem_append.1 hq with hq | hq
      · exact absurd hd ((p1 q hq).wr t hdq)
      · cases hq with
        | head => exact hv
        | tail _ hm => exact absurd hdq ((p2 q hm).wr t hd)
    · exact absurd hd (h1 s hs (.inr rfl))
  · have hput : (a.put s.o.dst v').tmps.getD t undef = a.tmps.getD t undef := by
      cases hdd : s.o.dst with
      | none => rfl
      | some d =>
        have hne : d ≠ t := fun hh => hd (by rw [hdd, hh])
        simp only [Act.put]
        rw [Array.getD_eq_getD_getElem?, Array.getElem?_setIfInBounds, if_neg hne, Array.getD_eq_getD_getElem?]
    rw [hput]
    refine (inv.fr t v ?_).mono hle
    rcases hfv with ⟨q, hq, hl, hdq, rfl⟩ | ⟨h1, h2⟩
    · rcases hl with hl | hl
      · exact .inl ⟨q, hq, hl, hdq, rfl⟩
      · have := can.uniq hs hq hl; subst this; exact absurd hdq hd
    · exact .inr ⟨fun q hq hl => h1 q hq (.inl hl), h2⟩
theorem Act.put_size (a : Act) (d : Option Tmp) (v : Value) : (a.put d v).tmps.size = a.tmps.size := by cases d <;> simp [Act.put]
theorem Act.put_defs (a : Act) (d : Option Tmp) (v : Value) : (a.put d v).defers = a.defers := by cases d <;> rfl
theorem Inv.put_down (can : Can P G ext call ops T f0 h0 fE hE) (inv : Inv P G ext call ops X ρ0 w0 T f0 h0 fE hE L a w ρ T1 T2 fp hp) {s : St} (hs : s ∈ T) (hr : ∀ e ∈ s.o.after, Region.binds .any e = true → L e.on) :
    ∀ q ∈ T, (L q.i ∨ q.i = s.i) → ∀ e ∈ q.o.after, Region.binds .any e = true → (L e.on ∨ e.on = s.i) := by
  intro q hq hl e he hb
  rcases hl with hl | hl
  · exact .inl (inv.down q hq hl e he hb)
  · have := can.uniq hs hq hl; subst this; exact .inl (hr e he hb)
/-- A step that is no main one and makes nothing. -/
theorem Inv.still (can : Can P G ext call ops T f0 h0 fE hE) (inv : Inv P G ext call ops X ρ0 w0 T f0 h0 fE hE L a w ρ T1 T2 fp hp) (ok : Okay P G ext) (hc : CallSound P G call) {s : St} (hs : s ∈ T)
    (hr : ∀ e ∈ s.o.after, Region.binds .any e = true → L e.on) (hm : kindOf P s.o ≠ .main) (hmade : ∀ n o, ¬ Made P s n o) {ρ' : Rho} (hle : ρ.le ρ') {v' : Value} (hv : VR ρ' s.v v') {w' : World}
    (hdoms : ∀ n bi, ρ' n = some bi → ρ n = some bi) (hwp : Wp X ρ0 h0 w0 ρ' (Ob P hp T2 L) w') :
    Inv P G ext call ops X ρ0 w0 T f0 h0 fE hE (fun j => L j ∨ j = s.i) (a.put s.o.dst v') w' ρ' T1 T2 fp hp := by
  have hob : Ob P hp T2 (fun j => L j ∨ j = s.i) = Ob P hp T2 L := by
    funext n o
    apply propext
    constructor
    · rintro (hh | ⟨q, hq, hl, hmd⟩)
      · exact .inl hh
      · rcases hl with hl | hl
        · exact .inr ⟨q, hq, hl, hmd⟩
        · have := can.uniq hs (by rw [inv.split]; simp [hq]) hl; subst this; exact absurd hmd (hmade n o)
    · rintro (hh | ⟨q, hq, hl, hmd⟩)
      · exact .inl hh
      · exact .inr ⟨q, hq, .inl hl, hmd⟩
  exact { split := inv.split, c1 := inv.c1, c2 := inv.c2
          last := by
            rcases inv.last with h | ⟨A, m, h1, h2, h3⟩
            · exact .inl h
            · exact .inr ⟨A, m, h1, h2, .inl h3⟩
          late := fun q hq hk hl => by
            rcases hl with hl | hl
            · exact inv.late q hq hk hl
            · have := can.uniq hs (by rw [inv.split]; simp [hq]) hl; subst this; exact hm hk
          down := inv.put_down can hs hr
          fn := by rw [Act.put_size]; exact inv.fn
          fr := inv.put_fr can ok hc hs hle hv
          defs := by rw [Act.put_defs]; exact inv.defs.mono hle
          low := inv.low
          dom := fun n bi hn => by
            rcases inv.dom n bi (hdoms n bi hn) with h | h | ⟨q, hq, hl, h⟩
            · exact .inl h
            · exact .inr (.inl h)
            · exact .inr (.inr ⟨q, hq, .inl hl, h⟩)
          doms := fun n bi hn => inv.doms n bi (hdoms n bi hn)
          wp := by rw [hob]; exact hwp }
/-- Ahead of the next main one: what lies between. -/
theorem Inv.between (can : Can P G ext call ops T f0 h0 fE hE) (inv : Inv P G ext call ops X ρ0 w0 T f0 h0 fE hE L a w ρ T1 T2 fp hp) {A B : List St} {s : St} (e : T2 = A ++ s :: B)
    (hr : ∀ e ∈ s.o.after, Region.binds .any e = true → L e.on) (hk : kindOf P s.o = .main ∨ kindOf P s.o = .read) : (∀ q ∈ A, kindOf P q.o ≠ .main) ∧ ∀ q ∈ A, kindOf P q.o = .alloc → L q.i := by
  have hsT : s ∈ T := by rw [inv.split, e]; simp
  obtain ⟨p1, _⟩ := can.parts (A := T1 ++ A) (B := B) (s := s) (by rw [inv.split, e]; simp)
  constructor
  · intro q hq hkq
    refine inv.late q (by rw [e]; simp [hq]) hkq (inv.rready can hsT hr ((p1 q (by simp [hq])).kind ?_))
    rw [hkq]; rcases hk with hk | hk <;> rw [hk] <;> rfl
  · intro q hq hkq
    refine inv.rready can hsT hr ((p1 q (by simp [hq])).kind ?_)
    rw [hkq]; rcases hk with hk | hk <;> rw [hk] <;> rfl
theorem Inv.front (can : Can P G ext call ops T f0 h0 fE hE) (inv : Inv P G ext call ops X ρ0 w0 T f0 h0 fE hE L a w ρ T1 T2 fp hp) {s : St} (hs : s ∈ T1) (hn : ¬ L s.i) : ∃ A B m, T1 = A ++ s :: (B ++ [m]) ∧ kindOf P m.o = .main ∧ L m.i ∧ ((kindOf P s.o).late .main = true → False) ∧ hp = m.h' := by
  rcases inv.last with h | ⟨A, m, h1, h2, h3⟩
  · rw [h] at hs; cases hs
  · have hm : hp = m.h' := by
      have := inv.c1
      rw [h1] at this
      obtain ⟨f1, h1', _, d2⟩ := this.split
      obtain ⟨_, _, _, _, d3⟩ := d2
      exact d3
    rw [h1] at hs
    rcases List.mem_append.1 hs with hs | hs
    · obtain ⟨A1, B1, rfl⟩ := List.append_of_mem hs
      refine ⟨A1, B1, m, by rw [h1]; simp, h2, h3, fun hl => ?_, hm⟩
      obtain ⟨_, p2⟩ := can.parts (A := A1) (B := B1 ++ m :: T2) (s := s) (by rw [inv.split, h1]; simp)
      exact hn (inv.rdown can ((p2 m (by simp)).kind (by rw [h2]; exact hl)) h3)
    · simp only [List.mem_singleton] at hs; subst hs; exact absurd h3 hn
theorem Inv.sub (can : Can P G ext call ops T f0 h0 fE hE) (inv : Inv P G ext call ops X ρ0 w0 T f0 h0 fE hE L a w ρ T1 T2 fp hp) (ok : Okay P G ext) (hc : CallSound P G call) {A B : List St} {s : St} (e : T2 = A ++ s :: B)
    (hr : ∀ e ∈ s.o.after, Region.binds .any e = true → L e.on) (hk : kindOf P s.o = .main ∨ kindOf P s.o = .read) :
    (∀ n o, s.h.get n = some o → Ob P hp T2 L n o) ∧ (∀ n o, s.h.get n = some o → n < s.h.next) ∧ hp.next ≤ s.h.next ∧ (∀ q ∈ A, ∀ n o, Made P q n o → n < s.h.next) ∧ (∀ q ∈ B, ∀ n o, Made P q n o → s.h'.next ≤ n) ∧ s.h.next ≤ s.h'.next ∧ s.h'.next ≤ hE.next ∧ h0.next ≤ s.h.next ∧
      (∀ n o, Ob P hp T2 L n o → s.h.get n = some o ∨ (∃ q ∈ B, L q.i ∧ Made P q n o) ∨ Made P s n o) := by
  obtain ⟨b1, b2⟩ := inv.between can e hr hk
  have hc2 := inv.c2
  rw [e] at hc2
  obtain ⟨f1, h1, d1, d2⟩ := hc2.split
  obtain ⟨rfl, rfl, so, d3⟩ := d2
  have madeB : ∀ q ∈ B, ∀ n o, Made P q n o → s.h'.next ≤ n := fun q hq n o hmd => by
    obtain ⟨B1, B2, rfl⟩ := List.append_of_mem hq
    obtain ⟨f2, h2, g1, g2⟩ := d3.split
    obtain ⟨rfl, rfl, _, _⟩ := g2
    rw [hmd.2.2.1]; exact (g1.next ok hc).1
  refine ⟨fun n o hg => ?_, d1.lows b1 inv.low, (d1.next ok hc).1, fun q hq n o hmd => ?_, madeB, so.next ok hc, (d3.next ok hc).1, Nat.le_trans (inv.c1.next ok hc).1 (d1.next ok hc).1, fun n o hob => ?_⟩
  · rcases d1.adds b1 n o hg with hh | ⟨q, hq, hmd⟩
    · exact .inl hh
    · exact .inr ⟨q, by rw [e]; simp [hq], b2 q hq hmd.1, hmd⟩
  · have := (d1.keeps b1 inv.low).2 q hq n o hmd
    exact d1.lows b1 inv.low n o this
  · rcases hob with hh | ⟨q, hq, hl, hmd⟩
    · exact .inl ((d1.keeps b1 inv.low).1 n o hh)
    · rw [e] at hq
      rcases List.mem_append.1 hq with hq | hq
      · exact .inl ((d1.keeps b1 inv.low).2 q hq n o hmd)
      · cases hq with
        | head => exact .inr (.inr hmd)
        | tail _ hm => exact .inr (.inl ⟨q, hm, hl, hmd⟩)
end
end Go.VII
