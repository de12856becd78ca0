/- A region that draws its order: all orders come to the canonical one. -/
import Derived.Test.YtafaeibcpanaeaaGreatDoorV20
namespace Go.VII
noncomputable section
variable {P : Program} {X : Cx} {ρ : Rho} {h : AH} {w : World} {ext : FuncId → Option Spec}
variable {call : CallF} {ops : Array Oper} {T : List St} {f0 fE : AFr} {h0 hE : AH} {ρ0 : Rho} {w0 : World} {L : Nat → Prop} {a : Act} {T1 T2 : List St} {fp : AFr} {hp : AH}
theorem Inv.done {G : GS} (can : Can P G ext call ops T f0 h0 fE hE) (inv : Inv P G ext call ops X ρ0 w0 T f0 h0 fE hE L a w ρ T1 T2 fp hp) (ok : Okay P G ext) (hc : CallSound P G call) (hall : ∀ s ∈ T, L s.i) :
    FRel ρ fE a ∧ Nd a ∧ Rel X ρ hE w ∧ Ext ρ0 h0 w0 ρ hE w := by
  have nm : ∀ q ∈ T2, kindOf P q.o ≠ .main := fun q hq hk => inv.late q hq hk (hall q (by rw [inv.split]; simp [hq]))
  have lows := inv.c2.lows nm inv.low
  have hob : ∀ n o, hE.get n = some o → Ob P hp T2 L n o := fun n o hg => by
    rcases inv.c2.adds nm n o hg with hh | ⟨q, hq, hm⟩
    · exact .inl hh
    · exact .inr ⟨q, hq, hall q (by rw [inv.split]; simp [hq]), hm⟩
  have hrel : Rel (X.keep X.R) ρ hE w := inv.wp.rel.sub hob lows fun n bi hn => by
    rcases inv.dom n bi hn with hh | hh | ⟨q, hq, _, o, hm⟩
    · exact .inl (Nat.lt_of_lt_of_le hh (inv.c2.next ok hc).1)
    · exact .inr hh
    · exact .inl (lows n o ((inv.c2.keeps nm inv.low).2 q hq n o hm))
  refine ⟨⟨(can.chain.next ok hc).2.trans inv.fn, fun t v hv => ?_, by rw [can.chain.defs]; exact inv.defs⟩, trivial, hrel, ⟨inv.doms, inv.wp.le, (can.chain.next ok hc).1, inv.wp.size, inv.wp.frm, fun b hb => ?_, inv.wp.tape, inv.wp.os, inv.wp.output⟩⟩
  · rcases can.chain.frames t v hv with ⟨b, hb, b1, b2⟩ | ⟨b1, b2⟩
    · exact inv.fr t v (.inl ⟨b, hb, hall b hb, b1, b2⟩)
    · exact inv.fr t v (.inr ⟨fun q hq _ => b1 q hq, b2⟩)
  · obtain ⟨n, o, bi, g1, g2, g3, rfl⟩ := hb
    exact inv.wp.ownm n o bi (hob n o g1) g2 g3
theorem first_not {α : Type} (p : α → Prop) : ∀ l : List α, (∀ x ∈ l, p x) ∨ ∃ A x B, l = A ++ x :: B ∧ (∀ y ∈ A, p y) ∧ ¬ p x
  | [] => .inl (fun _ h => (by cases h))
  | x :: l => by
    by_cases hx : p x
    · rcases first_not p l with h | ⟨A, y, B, rfl, h1, h2⟩
      · left; intro y hy
        cases hy with
        | head => exact hx
        | tail _ hm => exact h y hm
      · refine .inr ⟨x :: A, y, B, rfl, fun z hz => ?_, h2⟩
        cases hz with
        | head => exact hx
        | tail _ hm => exact h1 z hm
    · exact .inr ⟨[], x, l, rfl, fun _ h => (by cases h), hx⟩
theorem Lst_set {listed : Array Bool} {i : Nat} (hi : i < listed.size) : Lst (listed.setIfInBounds i true) = fun j => Lst listed j ∨ j = i := by
  funext j
  apply propext
  unfold Lst
  by_cases hij : i = j
  · subst hij; simp [hi]
  · rw [getD_set_ne false hij]; simp [Ne.symm hij]
theorem filter_lt {listed : Array Bool} {s : St} : ∀ {T : List St}, s ∈ T → listed.getD s.i false = false → s.i < listed.size →
    (T.filter fun q => !(listed.setIfInBounds s.i true).getD q.i false).length < (T.filter fun q => !listed.getD q.i false).length := by
  intro T hs hl hi
  have hset := Lst_set hi
  have mono : ∀ q : St, (!(listed.setIfInBounds s.i true).getD q.i false) = true → (!listed.getD q.i false) = true := fun q hq => by
    cases hh : listed.getD q.i false with
    | false => rfl
    | true =>
      have : Lst (listed.setIfInBounds s.i true) q.i := by rw [hset]; exact .inl hh
      unfold Lst at this; rw [this] at hq; cases hq
  induction T with
  | nil => cases hs
  | cons q T ih =>
    cases hs with
    | head =>
      have h1 : (listed.setIfInBounds s.i true).getD s.i false = true := by
        have : Lst (listed.setIfInBounds s.i true) s.i := by rw [hset]; exact .inr rfl
        exact this
      rw [List.filter_cons_of_neg (by rw [h1]; simp), List.filter_cons_of_pos (by rw [hl]; rfl)]
      have : (T.filter fun q => !(listed.setIfInBounds s.i true).getD q.i false).length ≤ (T.filter fun q => !listed.getD q.i false).length := by
        clear ih
        induction T with
        | nil => simp
        | cons q T ih =>
          simp only [List.filter_cons]
          split
          · rename_i h1; rw [if_pos (mono q h1)]; simp only [List.length_cons]; omega
          · split
            · simp only [List.length_cons]; omega
            · exact ih
      simp only [List.length_cons]; omega
    | tail _ hm =>
      have := ih hm
      simp only [List.filter_cons]
      split
      · rename_i h1; rw [if_pos (mono q h1)]; simp only [List.length_cons]; omega
      · split
        · simp only [List.length_cons]; omega
        · exact this
theorem any_inv {Q : Exit → Act → World → Prop} (can : Can P X.G ext call ops T f0 h0 fE hE) (ok : Okay P X.G ext) (hc : CallSound P X.G call) (hroom : Room X w0 hE)
    (hQ : ∀ ρ' a' w', FRel ρ' fE a' → Nd a' → Rel X ρ' hE w' → Ext ρ0 h0 w0 ρ' hE w' → Q .normal a' w') :
    ∀ (fuel : Nat) (listed : Array Bool) (a : Act) (w : World) (ρ : Rho) (T1 T2 : List St) (fp : AFr) (hp : AH), listed.size = ops.size → Inv P X.G ext call ops X ρ0 w0 T f0 h0 fE hE (Lst listed) a w ρ T1 T2 fp hp →
      (T.filter fun q => !listed.getD q.i false).length ≤ fuel → wpAny P .any ops Q fuel listed a w := by
  -- an order that is done, and one that is not
  have allOr : ∀ (listed : Array Bool), listed.size = ops.size → (∀ s ∈ T, Lst listed s.i) ∨ ∃ i, i ∈ Region.ready .any ops listed := by
    intro listed hsz
    rcases first_not (fun s : St => Lst listed s.i) T with h | ⟨A, s, B, e, h1, h2⟩
    · exact .inl h
    · right
      have hop := (can.okOf (s := s) (by rw [e]; simp)).op
      have hlt : s.i < listed.size := by rw [hsz]; exact (Array.getElem?_eq_some_iff.1 hop).1
      refine ⟨s.i, mem_ready.2 ⟨?_, s.o, hop, fun ed he hb => ?_⟩⟩
      · have h2' : listed.getD s.i false ≠ true := h2
        simp only [Array.getD_eq_getD_getElem?, Array.getElem?_eq_getElem hlt, Option.getD_some] at h2' ⊢
        simpa using h2'
      · obtain ⟨q, hq, hqi⟩ := can.edges A s B e ed he hb
        rw [← hqi]; exact h1 q hq
  intro fuel
  induction fuel with
  | zero =>
    intro listed a w ρ T1 T2 fp hp hsz inv hf
    have hall : ∀ s ∈ T, Lst listed s.i := fun s hs => by
      have h0 : (T.filter fun q => !listed.getD q.i false) = [] := List.eq_nil_of_length_eq_zero (by omega)
      have := List.filter_eq_nil_iff.1 h0 s hs
      simpa [Lst] using this
    refine ⟨?_, ?_⟩
    · cases hr : Region.ready .any ops listed with
      | nil => rfl
      | cons i l =>
        exfalso
        have hi : i ∈ Region.ready .any ops listed := by rw [hr]; simp
        obtain ⟨g1, o, g2, _⟩ := mem_ready.1 hi
        obtain ⟨s, hs, rfl, rfl⟩ := can.at g2
        have := hall s hs
        have hlt : s.i < listed.size := by rw [hsz]; exact (Array.getElem?_eq_some_iff.1 g2).1
        unfold Lst at this
        simp only [Array.getD_eq_getD_getElem?, Array.getElem?_eq_getElem hlt, Option.getD_some] at this g1
        rw [this] at g1; cases g1
    · obtain ⟨q1, q2, q3, q4⟩ := inv.done can ok hc hall
      exact hQ _ _ _ q1 q2 q3 q4
  | succ fuel ih =>
    intro listed a w ρ T1 T2 fp hp hsz inv hf
    refine ⟨fun h0 => ?_, fun i hi => ?_⟩
    · rcases allOr listed hsz with hall | ⟨i, hi⟩
      · obtain ⟨q1, q2, q3, q4⟩ := inv.done can ok hc hall
        exact hQ _ _ _ q1 q2 q3 q4
      · rw [h0] at hi; cases hi
    · obtain ⟨g1, o, g2, g3⟩ := mem_ready.1 hi
      obtain ⟨s, hs, rfl, rfl⟩ := can.at g2
      have hlt : s.i < listed.size := by rw [hsz]; exact (Array.getElem?_eq_some_iff.1 g2).1
      have hnl : listed.getD s.i false = false := by
        simp only [Array.getD_eq_getD_getElem?, Array.getElem?_eq_getElem hlt, Option.getD_some] at g1 ⊢
        exact g1
      have hn : ¬ Lst listed s.i := by unfold Lst; rw [hnl]; simp
      refine inv.step can ok hc hroom hs hn (fun e he hb => g3 e he hb) fun a' w' ρ' T1' T2' fp' hp' inv' => ?_
      have hlf := filter_lt hs hnl hlt
      refine ih _ a' w' ρ' T1' T2' fp' hp' (by simp [hsz]) ?_ (by omega)
      rw [Lst_set hlt]; exact inv'
theorem Inv.start {G : GS} (can : Can P G ext call ops T f0 h0 fE hE) {n : Nat} (r : Rel X ρ h0 w) (hf : FRel ρ f0 a) : Inv P G ext call ops X ρ w T f0 h0 fE hE (Lst (Array.replicate n false)) a w ρ [] T f0 h0 := by
  have hl : ∀ j, ¬ Lst (Array.replicate n false) j := fun j hj => by
    unfold Lst at hj
    rw [Array.getD_eq_getD_getElem?] at hj
    by_cases hjn : j < n
    · simp [hjn] at hj
    · rw [Array.getElem?_eq_none (by simp; omega)] at hj; simp at hj
  have hob : ∀ n' o, Ob P h0 T (Lst (Array.replicate n false)) n' o → h0.get n' = some o := by
    rintro n' o (hh | ⟨q, _, hq, _⟩)
    · exact hh
    · exact absurd hq (hl _)
  exact { split := rfl, c1 := ⟨rfl, rfl⟩, c2 := can.chain, last := .inl rfl, late := fun s _ _ => hl _, down := fun s _ h => absurd h (hl _)
          fn := hf.1
          fr := fun t v hfv => by
            rcases hfv with ⟨q, _, hq, _⟩ | ⟨_, h2⟩
            · exact absurd hq (hl _)
            · exact hf.2 t v h2
          defs := hf.3
          low := r.low
          dom := fun n bi hn => by
            rcases r.dom n bi hn with h | h
            · exact .inl h
            · exact .inr (.inl h)
          doms := fun n bi hn => .inl hn
          wp := { rel := ⟨r.blk, r.glob, fun n o h => r.objs n o (hob n o h), fun n o bi h1 h2 h3 => ⟨(r.own n o bi (hob n o h1) h2 h3).1, fun m o' bj g1 g2 g3 => (r.own n o bi (hob n o h1) h2 h3).2 m o' bj (hob m o' g1) g2 g3⟩, fun n o bi h1 h2 h3 => r.ro n o bi (hob n o h1) h2 h3⟩
                  le := Rho.le_refl ρ, size := Nat.le_refl _, frm := fun _ _ _ => rfl
                  ownm := fun n o bi h1 h2 h3 => .inr ⟨n, o, bi, hob n o h1, h2, h3, rfl⟩
                  tape := rfl, os := rfl, output := rfl } }
theorem region_can {id : Nat} (can : Can P X.G ext call ops T f0 h0 fE hE) (ok : Okay P X.G ext) (hc : CallSound P X.G call) (hm : P.follows .mixedOrders = true) (hlen : T.length ≤ ops.size) (hf : FRel ρ f0 a) (r : Rel X ρ h0 w) (hroom : Room X w hE)
    {Q : Exit → Act → World → Prop} (hQ : ∀ e a' w', Out X ρ h0 w (.normal, fE, hE) e a' w' → Q e a' w') : (Code.region id ops true).wp P Q a w := by
  refine wp_region_any hm ?_
  have r' : Rel X ρ h0 w.drew := r.drew
  refine any_inv (w0 := w.drew) (ρ0 := ρ) can ok hc hroom (fun ρ' a' w' q1 q2 q3 q4 => hQ _ _ _ ⟨ρ', trivial, q1, q2, q3, (Ext.drew ρ h0 w).trans q4⟩) _ _ _ _ ρ [] T f0 h0 (by simp) (Inv.start can r' hf) (Nat.le_trans (List.length_filter_le _ _) hlen)
end
end Go.VII
