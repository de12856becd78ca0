/- A region that draws its order: any order. -/
import Derived.Test.YtafaeibcpanaeaaGreatDoorV19
namespace Go.VII
noncomputable section
variable {P : Program} {X : Cx} {ρ : Rho} {h : AH} {w : World} {ext : FuncId → Option Spec}
variable {call : CallF} {ops : Array Oper} {T : List St} {f0 fE : AFr} {h0 hE : AH} {ρ0 : Rho} {w0 : World} {L : Nat → Prop} {a : Act} {T1 T2 : List St} {fp : AFr} {hp : AH}
/-- The names ahead that are in use. -/
def Ahead (ρ : Rho) (n0 : Nat) (n : Nat) : Prop := ρ n ≠ none ∧ n0 ≤ n
theorem Inv.relSub {G : GS} (inv : Inv P G ext call ops X ρ0 w0 T f0 h0 fE hE L a w ρ T1 T2 fp hp) {g : AH} (hg : ∀ n o, g.get n = some o → Ob P hp T2 L n o) (hl : ∀ n o, g.get n = some o → n < g.next) : Rel (X.keep (Ahead ρ g.next)) ρ g w :=
  inv.wp.rel.sub hg hl fun n bi hn => by
    by_cases hh : n < g.next
    · exact .inl hh
    · exact .inr ⟨by rw [hn]; simp, by omega⟩
theorem Inv.mainStep {G : GS} (can : Can P G ext call ops T f0 h0 fE hE) (inv : Inv P G ext call ops X ρ0 w0 T f0 h0 fE hE L a w ρ T1 T2 fp hp) (ok : Okay P G ext) (hc : CallSound P G call) {A B : List St} {s : St} (e : T2 = A ++ s :: B)
    (hr : ∀ e ∈ s.o.after, Region.binds .any e = true → L e.on) (hk : kindOf P s.o = .main) {ρ' : Rho} {w' : World} {v' : Value} {R : Nat → Prop} (hv : VR ρ' s.v v') (r' : Rel (X.keep R) ρ' s.h' w') (x : Ext ρ s.h w ρ' s.h' w') :
    Inv P G ext call ops X ρ0 w0 T f0 h0 fE hE (fun j => L j ∨ j = s.i) (a.put s.o.dst v') w' ρ' (T1 ++ A ++ [s]) B s.f' s.h' := by
  have hs : s ∈ T := by rw [inv.split, e]; simp
  obtain ⟨k1, k2, k3, k4, k5, k6, k7, k8, k9⟩ := inv.sub can ok hc e hr (.inl hk)
  have hsplit : T = (T1 ++ A) ++ s :: B := by rw [inv.split, e]; simp
  obtain ⟨p1, p2⟩ := can.parts hsplit
  have hc2 := inv.c2
  rw [e] at hc2
  obtain ⟨f1, h1, d1, d2⟩ := hc2.split
  obtain ⟨rfl, rfl, so, d3⟩ := d2
  have nomade : ∀ n o, ¬ Made P s n o := fun n o hm => by have := hm.1; rw [hk] at this; cases this
  exact { split := by rw [hsplit]; simp
          c1 := (inv.c1.join d1).join ⟨rfl, rfl, so, rfl, rfl⟩
          c2 := d3
          last := .inr ⟨T1 ++ A, s, rfl, hk, .inr rfl⟩
          late := fun q hq hkq hl => by
            rcases hl with hl | hl
            · exact inv.late q (by rw [e]; simp [hq]) hkq hl
            · exact (p2 q hq).ne hl.symm
          down := inv.put_down can hs hr
          fn := by rw [Act.put_size]; exact inv.fn
          fr := inv.put_fr can ok hc hs x.le hv
          defs := by rw [Act.put_defs]; exact inv.defs.mono x.le
          low := r'.low
          dom := fun n bi hn => by
            rcases x.doms n bi hn with hn | hn
            · rcases inv.dom n bi hn with hh | hh | ⟨q, hq, hl, o, hmd⟩
              · exact .inl (by omega)
              · exact .inr (.inl hh)
              · rw [e] at hq
                rcases List.mem_append.1 hq with hq | hq
                · have := k4 q hq n o hmd; exact .inl (by omega)
                · cases hq with
                  | head => exact absurd hmd (nomade n o)
                  | tail _ hm => exact .inr (.inr ⟨q, hm, .inl hl, o, hmd⟩)
            · exact .inl hn.2
          doms := fun n bi hn => by
            rcases x.doms n bi hn with hn | hn
            · exact inv.doms n bi hn
            · exact .inr ⟨by omega, by omega⟩
          wp := inv.wp.turn k1 r' x fun n o hob => by
            rcases hob with hh | ⟨q, hq, hl, hmd⟩
            · exact .inl hh
            · right
              have hql : L q.i := by
                rcases hl with hl | hl
                · exact hl
                · exact absurd hl.symm (p2 q hq).ne
              refine ⟨.inr ⟨q, by rw [e]; simp [hq], hql, hmd⟩, ?_⟩
              cases hg : s.h.get n with
              | none => rfl
              | some o2 =>
                have := k2 n o2 hg
                have := k5 q hq n o hmd
                omega }
theorem Inv.roomMain {G : GS} (can : Can P G ext call ops T f0 h0 fE hE) (inv : Inv P G ext call ops X ρ0 w0 T f0 h0 fE hE L a w ρ T1 T2 fp hp) (ok : Okay P G ext) (hc : CallSound P G call) {A B : List St} {s : St} (e : T2 = A ++ s :: B)
    (hr : ∀ e ∈ s.o.after, Region.binds .any e = true → L e.on) (hk : kindOf P s.o = .main) (hroom : Room X w0 hE) : Room (X.keep (Ahead ρ s.h.next)) w s.h' := by
  obtain ⟨k1, k2, k3, k4, k5, k6, k7, k8, k9⟩ := inv.sub can ok hc e hr (.inl hk)
  refine ⟨Nat.le_trans hroom.1 inv.wp.size, fun n hn => ?_⟩
  obtain ⟨hn1, hn2⟩ := hn
  cases hb : ρ n with
  | none => exact absurd hb hn1
  | some bi =>
    rcases inv.dom n bi hb with hh | hh | ⟨q, hq, hl, o, hmd⟩
    · omega
    · have := hroom.2 n hh; omega
    · rw [e] at hq
      rcases List.mem_append.1 hq with hq | hq
      · have := k4 q hq n o hmd; omega
      · cases hq with
        | head => have := hmd.1; rw [hk] at this; cases this
        | tail _ hm => exact k5 q hm n o hmd
theorem Inv.allocStep {G : GS} (can : Can P G ext call ops T f0 h0 fE hE) (inv : Inv P G ext call ops X ρ0 w0 T f0 h0 fE hE L a w ρ T1 T2 fp hp) (ok : Okay P G ext) (hc : CallSound P G call) {s : St} (hs : s ∈ T2) (hn : ¬ L s.i)
    (hr : ∀ e ∈ s.o.after, Region.binds .any e = true → L e.on) (hroom : Room X w0 hE) {ob : AObj} (hnew : s.h.new ob = some (s.h.next, s.h')) (hmd : ∀ n o, Made P s n o ↔ n = s.h.next ∧ o = ob) (hka : kindOf P s.o = .alloc) {h3 : AH} (h3n : (AH.bare s.h.next).new ob = some (s.h.next, h3)) :
    Room (X.keep (Ahead ρ s.h.next)) w h3 ∧ ∀ {ρ' : Rho} {w' : World} {v' : Value} {R : Nat → Prop}, VR ρ' s.v v' → Rel (X.keep R) ρ' h3 w' → Ext ρ (AH.bare s.h.next) w ρ' h3 w' →
      Inv P G ext call ops X ρ0 w0 T f0 h0 fE hE (fun j => L j ∨ j = s.i) (a.put s.o.dst v') w' ρ' T1 T2 fp hp := by
  have hsT : s ∈ T := by rw [inv.split]; simp [hs]
  obtain ⟨_, n1, _, n2, n3⟩ := AH.new_some h3n
  obtain ⟨_, m1, _, m2, m3⟩ := AH.new_some hnew
  have hbn : (AH.bare s.h.next).next = s.h.next := rfl
  rw [hbn] at n1
  obtain ⟨A, B, e⟩ := List.append_of_mem hs
  have hc2 := inv.c2
  rw [e] at hc2
  obtain ⟨f1, h1, d1, d2⟩ := hc2.split
  obtain ⟨rfl, rfl, so, d3⟩ := d2
  have hA := (d1.next ok hc).1
  have hB := (d3.next ok hc).1
  have hfree : ρ s.h.next = none := by
    cases hb : ρ s.h.next with
    | none => rfl
    | some bi =>
      exfalso
      rcases inv.dom _ bi hb with hh | hh | ⟨q, hq, hl, o, hq2⟩
      · omega
      · have := hroom.2 _ hh; omega
      · rw [e] at hq
        rcases List.mem_append.1 hq with hq | hq
        · obtain ⟨A1, A2, rfl⟩ := List.append_of_mem hq
          obtain ⟨f2, h2, _, g2⟩ := d1.split
          obtain ⟨rfl, rfl, so2, g3⟩ := g2
          have := (g3.next ok hc).1
          obtain ⟨_, q1, _⟩ := hq2.next so2
          omega
        · cases hq with
          | head => exact hn hl
          | tail _ hm =>
            obtain ⟨B1, B2, rfl⟩ := List.append_of_mem hm
            obtain ⟨f2, h2, g1, g2⟩ := d3.split
            obtain ⟨rfl, rfl, _, _⟩ := g2
            have := (g1.next ok hc).1
            have := hq2.2.2.1
            omega
  refine ⟨⟨Nat.le_trans hroom.1 inv.wp.size, fun n hn => ?_⟩, fun {ρ' w' v' R} hv r' x => ?_⟩
  · obtain ⟨q1, q2⟩ := hn
    rw [n1]
    rcases Nat.lt_or_ge s.h.next n with hh | hh
    · exact hh
    · exact absurd (by rw [show n = s.h.next from by omega]; exact hfree) q1
  · have hob : ∀ n o, Ob P hp T2 (fun j => L j ∨ j = s.i) n o → h3.get n = some o ∨ (Ob P hp T2 L n o ∧ (AH.bare s.h.next).get n = none) := by
      rintro n o (hh | ⟨q, hq, hl, hq2⟩)
      · exact .inr ⟨.inl hh, AH.bare_get⟩
      · rcases hl with hl | hl
        · exact .inr ⟨.inr ⟨q, hq, hl, hq2⟩, AH.bare_get⟩
        · have := can.uniq hsT (by rw [inv.split]; simp [hq]) hl; subst this
          obtain ⟨rfl, rfl⟩ := (hmd n o).1 hq2
          exact .inl n2
    have hdm : ∀ n bi, ρ' n = some bi → ρ n = some bi ∨ n = s.h.next := fun n bi hb => by
      rcases x.doms n bi hb with hh | hh
      · exact .inl hh
      · rw [hbn, n1] at hh; exact .inr (by omega)
    have hlow0 : h0.next ≤ s.h.next := Nat.le_trans (inv.c1.next ok hc).1 hA
    exact { split := inv.split, c1 := inv.c1, c2 := inv.c2
            last := by
              rcases inv.last with h | ⟨A, m, h1, h2, h3⟩
              · exact .inl h
              · exact .inr ⟨A, m, h1, h2, .inl h3⟩
            late := fun q hq hk hl => by
              rcases hl with hl | hl
              · exact inv.late q hq hk hl
              · have := can.uniq hsT (by rw [inv.split]; simp [hq]) hl; subst this; rw [hka] at hk; cases hk
            down := inv.put_down can hsT hr
            fn := by rw [Act.put_size]; exact inv.fn
            fr := inv.put_fr can ok hc hsT x.le hv
            defs := by rw [Act.put_defs]; exact inv.defs.mono x.le
            low := inv.low
            dom := fun n bi hb => by
              rcases hdm n bi hb with hh | hh
              · rcases inv.dom n bi hh with h | h | ⟨q, hq, hl, h⟩
                · exact .inl h
                · exact .inr (.inl h)
                · exact .inr (.inr ⟨q, hq, .inl hl, h⟩)
              · exact .inr (.inr ⟨s, hs, .inr rfl, ob, (hmd _ _).2 ⟨hh, rfl⟩⟩)
            doms := fun n bi hb => by
              rcases hdm n bi hb with hh | hh
              · exact inv.doms n bi hh
              · exact .inr ⟨by omega, by omega⟩
            wp := inv.wp.turn (g := AH.bare s.h.next) (fun n o hg => by rw [AH.bare_get] at hg; cases hg) r' x hob }
/-- Whatever is ready may come next. -/
theorem Inv.step {Q : Exit → Act → World → Prop} (can : Can P X.G ext call ops T f0 h0 fE hE) (inv : Inv P X.G ext call ops X ρ0 w0 T f0 h0 fE hE L a w ρ T1 T2 fp hp) (ok : Okay P X.G ext) (hc : CallSound P X.G call) (hroom : Room X w0 hE) {s : St} (hs : s ∈ T) (hn : ¬ L s.i)
    (hr : ∀ e ∈ s.o.after, Region.binds .any e = true → L e.on) {K : Act → World → Prop}
    (hK : ∀ a' w' ρ' T1' T2' fp' hp', Inv P X.G ext call ops X ρ0 w0 T f0 h0 fE hE (fun j => L j ∨ j = s.i) a' w' ρ' T1' T2' fp' hp' → K a' w') : wpOp P ops Q s.i K a w := by
  have so := can.okOf hs
  have hlk := inv.looks can hs hn hr
  have hB : X.B ≤ w.heap.size := Nat.le_trans hroom.1 inv.wp.size
  have hev : EvR ρ (evo X.G s) a.eval := evo_rel inv.wp.rel.glob hlk
  have inT : s ∈ T1 ∨ s ∈ T2 := by rw [inv.split] at hs; exact List.mem_append.1 hs
  have main2 : kindOf P s.o = .main → ∃ A B, T2 = A ++ s :: B := fun hk => by
    rcases inT with h | h
    · obtain ⟨A, B, m, _, _, _, hf, _⟩ := inv.front can h hn
      exact (hf (by rw [hk]; rfl)).elim
    · exact List.append_of_mem h
  unfold wpOp
  simp only [so.op]
  rcases so.did with ⟨hsk, hwn, hv, hh⟩ | ⟨hsk, hwn, hdo⟩
  · rw [awanted_local hwn hlk]
    simp only [Bool.false_eq_true, if_false]
    have hvr : VR ρ s.v undef := by rw [hv]; exact .tuple .nil
    have hnm : ∀ n o, ¬ Made P s n o := fun n o hm => by have := hm.2.1; rw [hsk] at this; cases this
    by_cases hk : kindOf P s.o = .main
    · obtain ⟨A, B, e⟩ := main2 hk
      obtain ⟨k1, k2, _⟩ := inv.sub can ok hc e hr (.inl hk)
      have rs := inv.relSub k1 k2
      refine hK _ _ _ _ _ _ _ (inv.mainStep can ok hc e hr hk (ρ' := ρ) (w' := w) (R := Ahead ρ s.h.next) hvr (by rw [hh]; exact rs) (by rw [hh]; exact .refl _ _ _))
    · exact hK _ _ _ _ _ _ _ (inv.still can ok hc hs hr hk hnm (Rho.le_refl ρ) hvr (fun _ _ h => h) inv.wp)
  · rw [awanted_local hwn hlk]
    simp only [if_true]
    refine Or.inl ?_
    cases hk : kindOf P s.o with
    | main =>
      obtain ⟨A, B, e⟩ := main2 hk
      obtain ⟨k1, k2, _⟩ := inv.sub can ok hc e hr (.inl hk)
      have rs := inv.relSub k1 k2
      have rm := inv.roomMain can ok hc e hr hk hroom
      rcases hdo with hdo | ⟨g, args, hdo, hcl⟩
      · rw [evo_aop] at hdo
        obtain ⟨v', w', ρ', g1, g2, g3, g4⟩ := aop_sound (X := X.keep (Ahead ρ s.h.next)) (nx := .value s.v s.h') ok rs rm hev hdo
        exact g1 _ _ (hK _ _ _ _ _ _ _ (inv.mainStep can ok hc e hr hk g2 g3 g4))
      · rw [evo_aop] at hdo
        obtain ⟨args', fn, q1, q2, q3, q4⟩ := aop_sound (X := X.keep (Ahead ρ s.h.next)) (nx := .enter g args) ok rs hB hev hdo
        refine q4 _ _ (((hc _ _ _ _ hcl).1 fn q1 q2 (X.keep (Ahead ρ s.h.next)) ρ w args' rfl rs rm q3).mono fun en w'' hp => ?_)
        obtain ⟨v', ρ', rfl, p1, p2, p3⟩ := hp
        exact hK _ _ _ _ _ _ _ (inv.mainStep can ok hc e hr hk p1 p2 p3)
    | pure =>
      have hq : s.h' = s.h ∧ (∀ n o, ¬ Made P s n o) ∧ aop P ext (aeval X.G s.f) s.o (AH.bare 0) = some (.value s.v (AH.bare 0)) := by
        have hnm : ∀ n o, ¬ Made P s n o := fun n o hm => by have := hm.1; rw [hk] at this; cases this
        rcases hdo with hdo | ⟨g, args, hdo, _⟩
        · obtain ⟨u, h1, h2⟩ := aop_pure hk hdo
          simp only [ANext.value.injEq] at h1
          exact ⟨h1.2, hnm, by rw [h1.1]; exact h2 _⟩
        · obtain ⟨u, h1, _⟩ := aop_pure hk hdo; cases h1
      obtain ⟨q1, q2, q3⟩ := hq
      rw [evo_aop] at q3
      have hg0 : ∀ n o, (AH.bare 0).get n = some o → Ob P hp T2 L n o := fun n o hg => by rw [AH.bare_get] at hg; cases hg
      have rs := inv.relSub (g := AH.bare 0) hg0 (fun n o hg => by rw [AH.bare_get] at hg; cases hg)
      obtain ⟨v', w', ρ', g1, g2, g3, g4⟩ := aop_sound (X := X.keep (Ahead ρ 0)) (nx := .value s.v (AH.bare 0)) ok rs ⟨hB, fun n _ => Nat.zero_le _⟩ hev q3
      refine g1 _ _ (hK _ _ _ _ _ _ _ (inv.still can ok hc hs hr (by rw [hk]; simp) q2 g4.le g2 (fun n bi hb => ?_) (inv.wp.turn hg0 g3 g4 fun n o hob => .inr ⟨hob, AH.bare_get⟩)))
      rcases g4.doms n bi hb with h | h
      · exact h
      · omega
    | read =>
      have hnm : ∀ n o, ¬ Made P s n o := fun n o hm => by have := hm.1; rw [hk] at this; cases this
      -- the heap that it reads
      have hg : ∃ g : AH, aop P ext (aeval X.G s.f) s.o g = some (.value s.v g) ∧ (∀ n o, g.get n = some o → Ob P hp T2 L n o) ∧ (∀ n o, g.get n = some o → n < g.next) ∧ (∀ n o, Ob P hp T2 L n o → g.get n = some o ∨ g.get n = none) := by
        have hval : aop P ext (aeval X.G s.f) s.o s.h = some (.value s.v s.h) := by
          rcases hdo with hdo | ⟨g, args, hdo, _⟩
          · obtain ⟨u, h1⟩ := aop_read hk hdo
            simp only [ANext.value.injEq] at h1
            rw [hdo, h1.1, h1.2]
          · obtain ⟨u, h1⟩ := aop_read hk hdo; cases h1
        rcases inT with h | h
        · obtain ⟨A, B, m, e, hm1, hm2, _, hm3⟩ := inv.front can h hn
          have hre := can.rech A s B m T2 (by rw [inv.split, e]; simp) hk hsk hm1
          rcases hre with hre | hre
          · exact absurd (inv.rdown can hre hm2) hn
          · rw [← hm3] at hre
            refine ⟨hp, hre ▸ ?_, fun n o hg => .inl hg, inv.low, fun n o hob => ?_⟩
            · obtain ⟨u, h1⟩ := aop_read hk hre
              simp only [ANext.value.injEq] at h1
              rw [hre, h1.1]
            · rcases hob with hh | ⟨q, hq, hl, hmd⟩
              · exact .inl hh
              · right
                cases hgn : hp.get n with
                | none => rfl
                | some o2 =>
                  have h1 := inv.low n o2 hgn
                  obtain ⟨C, D, rfl⟩ := List.append_of_mem hq
                  obtain ⟨f2, h2, d1, d2⟩ := inv.c2.split
                  obtain ⟨rfl, rfl, _, _⟩ := d2
                  have := (d1.next ok hc).1
                  have := hmd.2.2.1
                  omega
        · obtain ⟨A, B, e⟩ := List.append_of_mem h
          obtain ⟨k1, k2, k3, k4, k5, k6, k7, k8, k9⟩ := inv.sub can ok hc e hr (.inr hk)
          refine ⟨s.h, hval, k1, k2, fun n o hob => ?_⟩
          rcases k9 n o hob with hh | ⟨q, hq, _, hmd⟩ | hmd
          · exact .inl hh
          · right
            cases hgn : s.h.get n with
            | none => rfl
            | some o2 =>
              have := k2 n o2 hgn
              have := k5 q hq n o hmd
              omega
          · exact absurd hmd (hnm n o)
      obtain ⟨g, q3, hg0, hgl, hgo⟩ := hg
      rw [evo_aop] at q3
      have rs := inv.relSub hg0 hgl
      obtain ⟨v', w', ρ', g1, g2, g3, g4⟩ := aop_sound (X := X.keep (Ahead ρ g.next)) (nx := .value s.v g) ok rs ⟨hB, fun n hn => hn.2⟩ hev q3
      refine g1 _ _ (hK _ _ _ _ _ _ _ (inv.still can ok hc hs hr (by rw [hk]; simp) hnm g4.le g2 (fun n bi hb => ?_) (inv.wp.turn hg0 g3 g4 fun n o hob => ?_)))
      · rcases g4.doms n bi hb with h | h
        · exact h
        · omega
      · rcases hgo n o hob with h | h
        · exact .inl h
        · exact .inr ⟨hob, h⟩
    | alloc =>
      have hs2 : s ∈ T2 := by
        rcases inT with h | h
        · obtain ⟨A, B, m, _, _, _, hf, _⟩ := inv.front can h hn
          exact (hf (by rw [hk]; rfl)).elim
        · exact h
      rcases so.quiet (by rw [hk]; simp) with ⟨hh, hnm⟩ | ⟨_, _, ob, o1, o2, o3, o4⟩
      · exfalso
        rcases hdo with hdo | ⟨g, args, hdo, _⟩
        · obtain ⟨u, ob, h1, q1, q2, q3, _⟩ := aop_alloc hk hdo
          cases q1
          have := (AH.new_some q3).2.1
          rw [hh] at this; omega
        · obtain ⟨u, ob, h1, q1, _⟩ := aop_alloc hk hdo; cases q1
      · obtain ⟨h3, b1, b2⟩ := o4 (AH.bare s.h.next) rfl
        obtain ⟨rm, fin⟩ := inv.allocStep can ok hc hs2 hn hr hroom o2 o3 hk b1
        rw [evo_aop] at b2
        have hg0 : ∀ n o, (AH.bare s.h.next).get n = some o → Ob P hp T2 L n o := fun n o hg => by rw [AH.bare_get] at hg; cases hg
        have rs := inv.relSub (g := AH.bare s.h.next) hg0 (fun n o hg => by rw [AH.bare_get] at hg; cases hg)
        obtain ⟨v', w', ρ', g1, g2, g3, g4⟩ := aop_sound (X := X.keep (Ahead ρ s.h.next)) (nx := .value s.v h3) ok rs rm hev b2
        exact g1 _ _ (hK _ _ _ _ _ _ _ (fin g2 g3 g4))
end
end Go.VII
