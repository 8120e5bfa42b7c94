/- As XChain, but the class of worlds need not hold behind the last operation (a store that ends what the class says). Over any program. -/
import Derived.Test.YtlogdionhgabdaaChain
set_option linter.unusedVariables false
set_option linter.unusedSimpArgs false
namespace Sw
open Go
section
variable {P : Program} {ops : Array Oper} {md : Region.Mode} {Q : Exit → Act → World → Prop} {C : World → Prop}
/-- whatever is listed, all that it waits for is listed -/
def DownB (md : Region.Mode) (ops : Array Oper) (listed : Array Bool) : Prop := ∀ (k : Nat) (ok : Oper), ops[k]? = some ok → listed.getD k false = true → ∀ e ∈ ok.after, Region.binds md e = true → listed.getD e.on false = true
theorem DownB.add {listed : Array Bool} (h : DownB md ops listed) {i : Nat} (hi : i ∈ Region.ready md ops listed) : DownB md ops (listed.setIfInBounds i true) := by
  intro k ok hk hl e he hb
  by_cases hki : i = k
  · subst hki
    obtain ⟨_, o, ho, hall⟩ := mem_ready.1 hi
    rw [hk] at ho
    cases ho
    exact getD_set_true (hall e he hb)
  · rw [getD_set_ne false hki] at hl
    exact getD_set_true (h k ok hk hl e he hb)
def anyD (P : Program) (md : Region.Mode) (ops : Array Oper) (C : World → Prop) (Q : Exit → Act → World → Prop) : Nat → Array Bool → Act → World → Prop
  | 0, listed, a, w => (∀ j, listed.getD j true = true) ∧ Q .normal a w
  | f + 1, listed, a, w => C w ∧ Region.ready md ops listed ≠ [] ∧ ∀ i ∈ Region.ready md ops listed, wpOp P ops (OnlyN Q) i (anyD P md ops C Q f (listed.setIfInBounds i true)) a w
theorem wpAny_of_anyD : ∀ (f : Nat) (listed : Array Bool) (a : Act) (w : World), anyD P md ops C Q f listed a w → wpAny P md ops (OnlyN Q) f listed a w
  | 0, listed, a, w, h => ⟨by
      rw [List.eq_nil_iff_forall_not_mem]
      intro j hj
      have := (mem_ready.1 hj).1
      rw [h.1 j] at this
      exact absurd this (by decide), h.2⟩
  | f + 1, listed, a, w, h => ⟨fun h0 => absurd h0 h.2.1, fun i hi => wpOp_mono (fun a w => wpAny_of_anyD f _ a w) (h.2.2 i hi)⟩
theorem anyD_first {i : Nat} {oi : Oper} {v : Value} (hi : ops[i]? = some oi) (hsel : ∀ (j : Nat) (o : Oper) cs b, ops[j]? = some o → o.op ≠ .select cs b)
    (hdep : ∃ (k : Nat) (ok : Oper), ops[k]? = some ok ∧ k ≠ i ∧ ∃ e ∈ ok.after, Region.binds md e = true ∧ e.on = i) :
    ∀ (f : Nat) (listed : Array Bool) (a : Act) (w : World),
      (∀ j oj, ops[j]? = some oj → j ≠ i → listed.getD j true = false → (∀ e ∈ oj.after, Region.binds md e = true → e.on ≠ i) → oi.apart ops oj = true) →
      DownB md ops listed → ops.size ≤ listed.size → i ∈ Region.ready md ops listed → C w → (∀ W, C W → ∃ v', YieldsAt P ops W oi v' a ∧ a.put oi.dst v' = a.put oi.dst v) →
      anyD P md ops C Q f (listed.setIfInBounds i true) (a.put oi.dst v) w → anyD P md ops C Q (f + 1) listed a w := by
  intro f
  induction f with
  | zero =>
    intro listed a w _ hdn hsz hr hC hy H
    refine ⟨hC, fun h => (by rw [h] at hr; cases hr), fun j hj => ?_⟩
    by_cases hji : j = i
    · subst hji
      obtain ⟨v', hy1, hy2⟩ := hy w hC
      exact wpOp_of_stOp (fun a' h' => h') (hy1.stOp (K := fun a' => anyD P md ops C Q 0 (listed.setIfInBounds j true) a' w) hi (by rw [hy2]; exact H))
    · have h1 := (mem_ready.1 hj).1
      have h2 := H.1 j
      rw [getD_set_ne true (Ne.symm hji)] at h2
      rw [h1] at h2
      cases h2
  | succ f ih =>
    intro listed a w hfree hdn hsz hr hC hy H
    have hun := (mem_ready.1 hr).1
    refine ⟨hC, fun h => (by rw [h] at hr; cases hr), fun j hj => ?_⟩
    by_cases hji : j = i
    · subst hji
      obtain ⟨v', hy1, hy2⟩ := hy w hC
      exact wpOp_of_stOp (fun a' h' => h') (hy1.stOp (K := fun a' => anyD P md ops C Q (f + 1) (listed.setIfInBounds j true) a' w) hi (by rw [hy2]; exact H))
    · have h1 := H.2.2 j (ready_mono hj hji)
      obtain ⟨hjun, oj, hoj, hall⟩ := mem_ready.1 hj
      have hnot : ∀ e ∈ oj.after, Region.binds md e = true → e.on ≠ i := fun e he hb heq => by
        have h1 := hall e he hb
        rw [heq, getD_both hun] at h1
        cases h1
      have hap := hfree j oj hoj hji hjun hnot
      have hap3 := (Oper.apart_spec hap)
      refine wpOp_put hoj hap (fun cs b => hsel j oj cs b hoj) (fun ds u w' hk => ?_) h1
      have hCw : C w' := by
        cases f with
        | succ f => exact hk.1
        | zero =>
          exfalso
          obtain ⟨k, ok, hok, hki, e, he, hb, heo⟩ := hdep
          by_cases hkj : k = j
          · subst hkj
            rw [hoj] at hok
            cases hok
            exact hnot e he hb heo
          · have h2 := hk.1 k
            rw [getD_set_ne true (Ne.symm hkj), getD_set_ne true (Ne.symm hki)] at h2
            rcases Nat.lt_or_ge k listed.size with hks | hks
            · have h3 : listed.getD k false = true := by
                rw [Array.getD_eq_getD_getElem?, Array.getElem?_eq_getElem hks] at h2 ⊢
                simpa using h2
              have h4 := hdn k ok hok h3 e he hb
              rw [heo, getD_both hun] at h4
              cases h4
            · -- an operation that is not counted
              have h5 : k < ops.size := (Array.getElem?_eq_some_iff.1 hok).1
              omega
      refine ih (listed.setIfInBounds j true) _ w' (fun k ok hk' hki hunk hno => hfree k ok hk' hki (by
        by_cases hjk : j = k
        · subst hjk; exact hjun
        · rw [getD_set_ne true hjk] at hunk; exact hunk) hno) (hdn.add hj) (by rw [Array.size_setIfInBounds]; exact hsz) (ready_mono hr (Ne.symm hji)) hCw (fun W hW => ?_) (by rw [Array.setIfInBounds_comm _ _ hji]; exact hk)
      obtain ⟨v', hy1, hy2⟩ := hy W hW
      refine ⟨v', hy1.of_same ?_ ?_, ?_⟩
      · exact execOp_put oi (fun cs b => hsel i oi cs b hi) ({ a with defers := ds ++ a.defers } : Act) oj.dst u hap3.2.2
      · exact wanted_put oi ({ a with defers := ds ++ a.defers } : Act) oj.dst u hap3.2.2
      · have hb : ∀ x, ({ a with defers := ds ++ a.defers } : Act).put oi.dst x = { a.put oi.dst x with defers := ds ++ a.defers } := fun x => by cases oi.dst <;> rfl
        rw [← Act.put_comm _ v' u hap3.2.1, ← Act.put_comm _ v u hap3.2.1, hb, hb, hy2]
/-- the walk in an order of one's own: 'true': yields the same in the class; 'false': forced -/
def mixD (P : Program) (ops : Array Oper) (C : World → Prop) (Q : Exit → Act → World → Prop) : List (Oper × Bool) → Act → World → Prop
  | [], a, w => Q .normal a w
  | (o, true) :: r, a, w => ∃ A1, (∀ m : Held C, wpStill P ops (HeldW m) (fun a' => a' = A1) [o] a) ∧ C w ∧ mixD P ops C Q r A1 w
  | (o, false) :: r, a, w => C w ∧ wpList P ops (OnlyN fun _ a' w' => mixD P ops C Q r a' w') [o] a w
/-- something waits for operation i -/
def awaited (md : Region.Mode) (ops : Array Oper) (i : Nat) : Bool := (List.range ops.size).any fun k => decide (k ≠ i) && (match ops[k]? with | some ok => ok.after.any fun e => Region.binds md e && decide (e.on = i) | none => false)
theorem awaited_spec {i : Nat} (h : awaited md ops i = true) : ∃ (k : Nat) (ok : Oper), ops[k]? = some ok ∧ k ≠ i ∧ ∃ e ∈ ok.after, Region.binds md e = true ∧ e.on = i := by
  unfold awaited at h
  obtain ⟨k, _, hk⟩ := List.any_eq_true.1 h
  simp only [Bool.and_eq_true, decide_eq_true_eq] at hk
  obtain ⟨hne, hk⟩ := hk
  cases ho : ops[k]? with
  | none => rw [ho] at hk; cases hk
  | some ok =>
    rw [ho] at hk
    obtain ⟨e, he, hb⟩ := Array.any_eq_true'.1 hk
    simp only [Bool.and_eq_true, decide_eq_true_eq] at hb
    exact ⟨k, ok, ho, hne, e, he, hb.1, hb.2⟩
def permD (md : Region.Mode) (ops : Array Oper) : List (Nat × Bool) → Array Bool → Bool
  | [], listed => listed.all id
  | (i, true) :: r, listed => (Region.ready md ops listed).contains i && Region.free md ops listed i && awaited md ops i && permD md ops r (listed.setIfInBounds i true)
  | (i, false) :: r, listed => decide (Region.ready md ops listed = [i]) && permD md ops r (listed.setIfInBounds i true)
theorem anyD_of_mix (hs : Region.noSelect ops = true) : ∀ (perm : List (Nat × Bool)) (listed : Array Bool) (a : Act) (w : World), DownB md ops listed → ops.size ≤ listed.size → permD md ops perm listed = true → mixD P ops C Q (pickP ops perm) a w → anyD P md ops C Q perm.length listed a w
  | [], listed, a, w, _, _, hB, h => ⟨fun j => by
      simp only [permD] at hB
      rcases Nat.lt_or_ge j listed.size with hj | hj
      · rw [Array.getD_eq_getD_getElem?, Array.getElem?_eq_getElem hj]
        have := Array.all_eq_true.1 hB j hj
        simpa using this
      · rw [Array.getD_eq_getD_getElem?, Array.getElem?_eq_none hj]
        rfl, h⟩
  | (i, true) :: r, listed, a, w, hdn, hsz, hB, h => by
    simp only [permD, Bool.and_eq_true] at hB
    obtain ⟨⟨⟨hr, hf⟩, haw⟩, hB'⟩ := hB
    have hr' : i ∈ Region.ready md ops listed := by simpa using hr
    obtain ⟨_, o, ho, _⟩ := mem_ready.1 hr'
    have e : pickP ops ((i, true) :: r) = (o, true) :: pickP ops r := by unfold pickP; simp [ho]
    rw [e] at h
    obtain ⟨A1, hv, hC, hm⟩ := h
    have hst : ∀ W, C W → ∃ v', YieldsAt P ops W o v' a ∧ a.put o.dst v' = A1 := fun W hW => by
      have h1 : stOp P ops W i (fun a' => a' = A1) a := by unfold stOp; simp only [ho]; exact hv ⟨W, hW⟩
      exact yieldsAt_of_stOp ho h1
    obtain ⟨v, _, rfl⟩ := hst w hC
    exact anyD_first ho (Region.noSelect_spec hs) (awaited_spec haw) r.length listed a w (Region.free_spec ho hf) hdn hsz hr' hC hst (anyD_of_mix hs r _ _ w (hdn.add hr') (by rw [Array.size_setIfInBounds]; exact hsz) hB' hm)
  | (i, false) :: r, listed, a, w, hdn, hsz, hB, h => by
    simp only [permD, Bool.and_eq_true, decide_eq_true_eq] at hB
    obtain ⟨hr, hB'⟩ := hB
    have hr' : i ∈ Region.ready md ops listed := by rw [hr]; simp
    obtain ⟨_, o, ho, _⟩ := mem_ready.1 hr'
    have e : pickP ops ((i, false) :: r) = (o, false) :: pickP ops r := by unfold pickP; simp [ho]
    rw [e] at h
    obtain ⟨hC, hw⟩ := h
    refine ⟨hC, by rw [hr]; simp, fun j hj => ?_⟩
    rw [hr] at hj
    obtain rfl : j = i := by simpa using hj
    have hgo : ∀ (a' : Act) (w' : World), mixD P ops C Q (pickP ops r) a' w' → anyD P md ops C Q r.length (listed.setIfInBounds j true) a' w' := fun a' w' hm => anyD_of_mix hs r _ a' w' (hdn.add hr') (by rw [Array.size_setIfInBounds]; exact hsz) hB' hm
    unfold wpOp
    simp only [ho]
    simp only [wpList] at hw
    split
    · rename_i hwt
      rw [if_pos hwt] at hw
      rcases hw with hw | hw
      · left
        unfold Oper.wp at *
        generalize (execOp a.eval o).run P w = res at *
        cases res with
        | ok n w' =>
          cases n <;> simp only [Oper.upon] at hw ⊢
          case value u => exact hgo _ _ hw
          case skip => exact hgo _ _ hw
          case defer d => exact hgo _ _ hw
          case enter f args => exact Calls.mono hw (fun e w'' he => by
            cases e
            · exact hgo _ _ he
            · exact he
            · exact absurd he OnlyN.out)
          case row row args => exact Rows.mono hw (fun v w'' he => hgo _ _ he)
        | halt x w' => cases x <;> simp only [Oper.upon] at hw ⊢ <;> exact hw
      · exact absurd hw.2 OnlyN.out
    · rename_i hwt
      rw [if_neg hwt] at hw
      exact hgo _ _ hw
end
theorem wp_region_mixD {P : Program} (C : World → Prop) (perm : List (Nat × Bool)) {id : Nat} {Q : Exit → Act → World → Prop} {a : Act} {w : World} {l : List Oper} (hm : P.follows .mixedOrders = true)
    (hB : (Region.noSelect l.toArray && decide (perm.length = l.length) && permD .any l.toArray perm (Array.replicate l.length false)) = true)
    (h : mixD P l.toArray C Q (pickP l.toArray perm) a w.drew) : (Code.region id l.toArray true).wp P Q a w := by
  simp only [Bool.and_eq_true, decide_eq_true_eq] at hB
  obtain ⟨⟨hs, hl⟩, hp⟩ := hB
  refine Code.wp_mono OnlyN.imp (wp_region_any hm (wpAny_of_anyD (C := C) _ _ _ _ ?_))
  have := anyD_of_mix (C := C) (Q := Q) hs perm (Array.replicate l.length false) a w.drew (fun k ok _ hl => by
    rw [Array.getD_eq_getD_getElem?] at hl
    rcases Nat.lt_or_ge k l.length with hk | hk
    · simp [hk] at hl
    · rw [Array.getElem?_eq_none (by simpa using hk)] at hl
      cases hl) (by simp) hp h
  rw [hl] at this
  simpa using this
theorem mixD_nil {P : Program} {ops : Array Oper} {C : World → Prop} {Q : Exit → Act → World → Prop} {a : Act} {w : World} (h : Q .normal a w) : mixD P ops C Q [] a w := h
theorem mixD_first {P : Program} {ops : Array Oper} {C : World → Prop} {Q : Exit → Act → World → Prop} {o : Oper} {r : List (Oper × Bool)} {a : Act} {w : World}
    (h : ∃ A1, (∀ m : Held C, wpQuiet P ops (fun w' => ∃ _ : Unit, w' = HeldW m) (fun a' => a' = A1) [o] a) ∧ C w ∧ mixD P ops C Q r A1 w) : mixD P ops C Q ((o, true) :: r) a w := by
  obtain ⟨A1, h1, h2, h3⟩ := h
  exact ⟨A1, fun m => still_of_quiet (h1 m), h2, h3⟩
theorem mixD_forced {P : Program} {ops : Array Oper} {C : World → Prop} {Q : Exit → Act → World → Prop} {o : Oper} {r : List (Oper × Bool)} {a : Act} {w : World} (hC : C w)
    (h : wpList P ops (OnlyN fun _ a' w' => mixD P ops C Q r a' w') [o] a w) : mixD P ops C Q ((o, false) :: r) a w := ⟨hC, h⟩
end Sw
