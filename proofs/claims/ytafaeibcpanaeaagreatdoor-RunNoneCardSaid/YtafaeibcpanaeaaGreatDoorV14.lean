/- Names only grow: no operation makes the next name smaller. -/
import Derived.Test.YtafaeibcpanaeaaGreatDoorV13
namespace Go.VII
noncomputable section
variable {P : Program} {h h1 : AH} {u : Value} {ext : FuncId → Option Spec}
theorem anew_next {esz n : Nat} {l : List Value} (e : anew h esz l = some (n, h1)) : h.next ≤ h1.next := by
  have := AH.new_some e; omega
theorem new_next {n : Nat} {o : AObj} (e : h.new o = some (n, h1)) : h.next ≤ h1.next := by
  have := AH.new_some e; omega
theorem astoreAt_next {n o : Nat} {l : List Value} (e : astoreAt h n o l = some h1) : h.next ≤ h1.next := by
  unfold astoreAt at e
  split at e
  · cases e; exact Nat.le_refl _
  · split at e
    · cases hc : l.all cellOk with
      | false => simp [hc] at e
      | true =>
        simp only [hc, cond_true] at e
        split at e
        · cases e; exact Nat.le_refl _
        · cases e
    · cases e
theorem astore_next {t : TypeId} {v x : Value} (e : astore P h t v x = some h1) : h.next ≤ h1.next := by
  unfold astore at e
  split at e
  · split at e
    · rename_i i _
      cases hc : Nat.beq x.cells.toList.length i.size with
      | false => rw [hc] at e; cases e
      | true => rw [hc] at e; exact astoreAt_next e
    · cases e
  · cases e
theorem aalloc_next {t : TypeId} (e : aalloc P h t = some (u, h1)) : h.next ≤ h1.next := by
  unfold aalloc at e
  split at e
  · cases e
  · split at e
    · cases e
    · rename_i hn; cases e; exact anew_next hn
theorem abox_next {v : Value} (e : abox h v = some (u, h1)) : h.next ≤ h1.next := by
  unfold abox at e
  split at e
  · cases e
  · rename_i hn; cases e; exact anew_next hn
theorem bif_some {α : Type} {b : Bool} {x : Option α} {y : α} (e : (bif b then x else none) = some y) : b = true ∧ x = some y := by
  cases b with
  | true => exact ⟨rfl, e⟩
  | false => cases e
theorem abuildSlice_next {t : TypeId} {n : Nat} {ps : List (Nat × Value)} (e : abuildSlice P h t n ps = some (u, h1)) : h.next ≤ h1.next := by
  unfold abuildSlice at e
  split at e
  · split at e
    · cases e
    · split at e
      · cases e
      · replace e := (bif_some e).2
        split at e
        · cases e
        · split at e
          · cases e
          · rename_i hn; cases e; exact anew_next hn
  · cases e
theorem amakeSlice_next {t : TypeId} {l c : Value} (e : amakeSlice P h t l c = some (u, h1)) : h.next ≤ h1.next := by
  unfold amakeSlice at e
  split at e
  · split at e
    · cases e
    · split at e
      · cases e
      · split at e
        · replace e := (bif_some e).2
          split at e
          · cases e
          · rename_i hn; cases e; exact new_next hn
        · cases e
  · cases e
theorem amakeMap_next {t : TypeId} {r : Option Value} (e : amakeMap P h t r = some (u, h1)) : h.next ≤ h1.next := by
  unfold amakeMap at e
  split at e
  · cases e
  · split at e
    · cases e
    · rename_i hn; cases e; exact new_next hn
theorem amapUpdate_next {t : TypeId} {m k v : Value} (e : amapUpdate P h t m k v = some h1) : h.next ≤ h1.next := by
  unfold amapUpdate at e
  split at e
  · split at e
    · split at e
      · replace e := (bif_some e).2
        split at e
        · cases e
        · cases e; exact Nat.le_refl _
        · split at e
          · cases e
          · replace e := (bif_some e).2; cases e; exact Nat.le_refl _
      · cases e
    · cases e
  · cases e
theorem adelete_next {t : TypeId} {m k : Value} (e : adelete P h t m k = some h1) : h.next ≤ h1.next := by
  unfold adelete at e
  split at e
  · split at e
    · replace e := (bif_some e).2; cases e; exact Nat.le_refl _
    · split at e
      · replace e := (bif_some e).2
        split at e
        · cases e
        · cases e; exact Nat.le_refl _
        · cases e; exact Nat.le_refl _
      · cases e
    · cases e
  · cases e
theorem some_pair {α β : Type} {a a' : α} {b b' : β} (e : some (a, b) = some (a', b')) : b = b' := by
  simp only [Option.some.injEq, Prod.mk.injEq] at e; exact e.2
theorem aappend_next {ats : Array TypeId} {s x : Value} (e : aappend P h ats s x = some (u, h1)) : h.next ≤ h1.next := by
  unfold aappend at e
  split at e
  · cases e
  split at e
  rotate_left
  · cases e
  split at e
  · cases e
  split at e
  · cases e
  split at e
  · cases e
  rename_i n _
  split at e
  · cases e
  replace e := (bif_some e).2
  split at e
  rotate_left
  · cases e
  cases hn : Nat.beq n 0 with
  | true => rw [hn] at e; have := some_pair e; subst this; exact Nat.le_refl _
  | false =>
    rw [hn] at e
    simp only [cond_false] at e
    replace e := (bif_some e).2
    split at e
    · replace e := (bif_some e).2
      split at e
      · cases e
      · rename_i hm; have := some_pair e; subst this; exact anew_next hm
    · split at e
      · replace e := (bif_some e).2
        split at e
        · cases e
        · split at e
          · cases e
          · rename_i hm; have := some_pair e; subst this; exact new_next (h := h.kill _) hm
      · cases e
    · cases e
theorem acopy_next {ats : Array TypeId} {s x : Value} (e : acopy P h ats s x = some (u, h1)) : h.next ≤ h1.next := by
  unfold acopy at e
  split at e
  · cases e
  · split at e
    · split at e
      · cases e
      · split at e
        · cases e
        · split at e
          · replace e := (bif_some e).2
            split at e
            · cases e
            · cases e; exact Nat.le_refl _
          · split at e
            · cases e
            · split at e
              · cases e; exact Nat.le_refl _
              · split at e
                · cases e
                · rename_i hs; cases e; exact astoreAt_next hs
          · cases e
    · cases e
theorem aclear0_next {ats : Array TypeId} {x : Value} (e : aclear0 P h ats x = some h1) : h.next ≤ h1.next := by
  unfold aclear0 at e
  split at e
  · cases e
  · split at e
    · cases e
    · split at e
      · rename_i nm o n cap
        cases hn : Nat.beq n 0 with
        | true => rw [hn] at e; cases e; exact Nat.le_refl _
        | false =>
          rw [hn] at e
          simp only [cond_false] at e
          split at e
          · split at e
            · cases e
            · rename_i z _
              split at e
              · cases e; exact Nat.le_refl _
              · cases hb : Nat.beq 0 z.cells.size with
                | true => rw [hb] at e; cases e
                | false => rw [hb] at e; exact astoreAt_next e
          · cases e
      · cases e
theorem awipe_next {ats : Array TypeId} {x : Value} (e : awipe P h ats x = some h1) : h.next ≤ h1.next := by
  unfold awipe at e
  split at e
  · cases e
  · split at e
    · split at e
      · rename_i nm o n cap
        cases hn : Nat.beq n 0 with
        | true => rw [hn] at e; cases e
        | false =>
          rw [hn] at e
          simp only [cond_false] at e
          split at e
          · split at e
            · split at e
              · cases e; exact Nat.le_refl _
              · cases e
            · cases e
          · cases e
      · cases e
    · cases e
theorem aclear_next {ats : Array TypeId} {x : Value} (e : aclear P h ats x = some h1) : h.next ≤ h1.next := by
  unfold aclear at e
  split at e
  · rename_i hw; cases e; exact awipe_next hw
  · exact aclear0_next e
theorem astrBytes_next {s d : TypeId} {x : Value} (e : astrBytes P h s d x = some (u, h1)) : h.next ≤ h1.next := by
  unfold astrBytes at e
  split at e
  · split at e
    · cases e
    · split at e
      · split at e
        · split at e
          · cases e
          · rename_i hn; cases e; exact anew_next hn
        · cases e
      · cases e
  · cases e
theorem arange_next {t : TypeId} {x : Value} (e : arange P h t x = some (u, h1)) : h.next ≤ h1.next := by
  unfold arange at e
  split at e
  · split at e
    · split at e
      · cases e
      · rename_i hn; cases e; exact new_next hn
    · cases e
  · cases e
theorem anext_next {x : Value} {b : Bool} (e : anext h x b = some (u, h1)) : h.next ≤ h1.next := by
  unfold anext at e
  split at e
  · split at e
    · rename_i s pos _
      cases hb : Nat.blt pos s.size with
      | true => rw [hb] at e; cases e; exact Nat.le_refl _
      | false => rw [hb] at e; cases e; exact Nat.le_refl _
    · cases e
  · cases e
theorem abuiltin_next {b : Builtin} {ats : Array TypeId} {l : List Value} (e : abuiltin P h b ats l = some (u, h1)) : h.next ≤ h1.next := by
  unfold abuiltin at e
  split at e
  · split at e
    · cases e; exact Nat.le_refl _
    · cases e
  · split at e
    · rename_i hp; cases e; exact aappend_next hp
    · obtain ⟨_, _, _, hm⟩ := aappendZ_next e; exact anew_next hm
  · split at e
    · cases e; exact Nat.le_refl _
    · cases e
  · exact acopy_next e
  · split at e
    · cases e
    · split at e
      · rename_i hd; cases e; exact adelete_next hd
      · cases e
  · split at e
    · rename_i hd; cases e; exact aclear_next hd
    · cases e
  · split at e
    · split at e
      · cases e; exact Nat.le_refl _
      · cases e
    · cases e
  · split at e
    · split at e
      · cases e; exact Nat.le_refl _
      · cases e
    · cases e
  · cases e
def NextLe (h : AH) : ANext → Prop
  | .value _ h1 => h.next ≤ h1.next
  | _ => True
theorem abuiltinS_next {b : Builtin} {ats : Array TypeId} {l : List Value} (e : abuiltinS P ext h b ats l = some (u, h1)) : h.next ≤ h1.next := by
  unfold abuiltinS at e
  split at e
  · rename_i hp; cases e; exact abuiltin_next hp
  · split at e
    · split at e
      · cases e
      · split at e
        · split at e
          · cases e; exact Nat.le_refl _
          · cases e
        · cases e
    · cases e
theorem aval_next {v : Option Value} {nx : ANext} (e : aval h v = some nx) : NextLe h nx := by
  obtain ⟨u, _, rfl⟩ := aval_some e; exact Nat.le_refl _
theorem avh_next {v : Option (Value × AH)} {nx : ANext} (e : avh v = some nx) (g : ∀ u h1, v = some (u, h1) → h.next ≤ h1.next) : NextLe h nx := by
  obtain ⟨u, h1, e1, rfl⟩ := avh_some e; exact g u h1 e1
theorem ah_next {v : Option AH} {nx : ANext} (e : ah v = some nx) (g : ∀ h1, v = some h1 → h.next ≤ h1.next) : NextLe h nx := by
  obtain ⟨h1, e1, rfl⟩ := ah_some e; exact g h1 e1
theorem aop_next {G : GS} (ok : Okay P G ext) {f : Ev} {o : Oper} {nx : ANext} (e : aop P ext f o h = some nx) : NextLe h nx := by
  unfold aop at e
  split at e
  · exact aval_next e
  · exact aval_next e
  · split at e
    · exact aval_next e
    · cases e
  · exact avh_next e fun _ _ => aalloc_next
  · split at e
    · exact avh_next e fun _ _ => abox_next
    · cases e
  · split at e
    · exact aval_next e
    · cases e
  · split at e
    · exact avh_next e fun _ _ => abuildSlice_next
    · cases e
  · split at e
    · exact aval_next e
    · cases e
  · split at e
    · exact ah_next e fun _ => astore_next
    · cases e
  · split at e
    · cases e; exact Nat.le_refl _
    · cases e; exact Nat.le_refl _
    · cases e; exact Nat.le_refl _
    · cases e
  · split at e
    · exact aval_next e
    · cases e
  · split at e
    · exact aval_next e
    · cases e
  · split at e
    · split at e
      · rename_i hs; cases e; exact astrBytes_next hs
      · split at e
        · cases e; exact Nat.le_refl _
        · exact aval_next e
    · cases e
  · replace e := (bif_some e).2
    split at e
    · cases e; exact Nat.le_refl _
    · cases e
  · split at e
    · cases e; exact Nat.le_refl _
    · cases e
  · split at e
    · exact avh_next e fun _ _ => amakeMap_next
    · cases e
  · split at e
    · exact avh_next e fun _ _ => amakeSlice_next
    · cases e
  · split at e
    · exact aval_next e
    · cases e
  · split at e
    · exact aval_next e
    · cases e
  · split at e
    · exact aval_next e
    · cases e
  · split at e
    · exact aval_next e
    · cases e
  · split at e
    · exact aval_next e
    · cases e
  · split at e
    · exact aval_next e
    · cases e
  · split at e
    · exact ah_next e fun _ => amapUpdate_next
    · cases e
  · split at e
    · exact ah_next e fun _ => amapUpdate_next
    · cases e
  · split at e
    · exact avh_next e fun _ _ => arange_next
    · cases e
  · split at e
    · exact avh_next e fun _ _ => anext_next
    · cases e
  · split at e
    · exact aval_next e
    · cases e
  · split at e
    · exact aval_next e
    · cases e
  · split at e
    · exact avh_next e fun _ _ => abuiltinS_next
    · cases e
  · split at e
    · unfold acallee at e
      split at e
      · cases e
      · split at e
        · cases e; trivial
        · split at e
          · cases e
          · rename_i hx
            split at e
            · cases e
            · rename_i hs; cases e; exact ok.next _ _ hx _ _ _ _ hs
    · cases e
  · split at e
    · cases e; trivial
    · cases e
  · split at e
    · split at e
      · split at e
        · cases e; trivial
        · cases e
      · cases e
    · cases e
  · cases e
end
end Go.VII
