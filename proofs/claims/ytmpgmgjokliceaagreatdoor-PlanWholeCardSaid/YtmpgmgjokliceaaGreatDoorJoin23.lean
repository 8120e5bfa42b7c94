/- Several texts, joined for the limit of sixty files; each one opens with its own comment. -/
import Derived.Test.YtmpgmgjokliceaaGreatDoorJoin22
/- As XChain, but the class of worlds need not hold behind the last operation (a store that ends what the class says). Over any program. -/
set_option linter.unusedVariables false
set_option linter.unusedSimpArgs false
namespace Sw
open Go
section
variable {P : Program} {ops : Array Oper} {md : Region.Mode} {Q : Exit → Act → World → Prop} {C : World → Prop}
/-- whatever is listed, all that it waits for is listed -/
def DownB (md : Region.Mode) (ops : Array Oper) (listed : Array Bool) : Prop := ∀ (k : Nat) (ok : Oper), ops[k]? = some ok → listed.getD k false = true → ∀ e ∈ ok.after, Region.binds md e = true → listed.getD e.on false = true
theorem DownB.add {listed : Array Bool} (h : DownB md ops listed) {i : Nat} (hi : i ∈ Region.ready md ops listed) : DownB md ops (listed.setIfInBounds i true) := by
  intro k ok hk hl e he hb
  by_cases hki : i = k
  · subst hki
    obtain ⟨_, o, ho, hall⟩ := mem_ready.1 hi
    rw [hk] at ho
    cases ho
    exact getD_set_true (hall e he hb)
  · rw [getD_set_ne false hki] at hl
    exact getD_set_true (h k ok hk hl e he hb)
def anyD (P : Program) (md : Region.Mode) (ops : Array Oper) (C : World → Prop) (Q : Exit → Act → World → Prop) : Nat → Array Bool → Act → World → Prop
  | 0, listed, a, w => (∀ j, listed.getD j true = true) ∧ Q .normal a w
  | f + 1, listed, a, w => C w ∧ Region.ready md ops listed ≠ [] ∧ ∀ i ∈ Region.ready md ops listed, wpOp P ops (OnlyN Q) i (anyD P md ops C Q f (listed.setIfInBounds i true)) a w
theorem wpAny_of_anyD : ∀ (f : Nat) (listed : Array Bool) (a : Act) (w : World), anyD P md ops C Q f listed a w → wpAny P md ops (OnlyN Q) f listed a w
  | 0, listed, a, w, h => ⟨by
      rw [List.eq_nil_iff_forall_not_mem]
      intro j hj
      have := (mem_ready.1 hj).1
      rw [h.1 j] at this
      exact absurd this (by decide), h.2⟩
  | f + 1, listed, a, w, h => ⟨fun h0 => absurd h0 h.2.1, fun i hi => wpOp_mono (fun a w => wpAny_of_anyD f _ a w) (h.2.2 i hi)⟩
theorem anyD_first {i : Nat} {oi : Oper} {v : Value} (hi : ops[i]? = some oi) (hsel : ∀ (j : Nat) (o : Oper) cs b, ops[j]? = some o → o.op ≠ .select cs b)
    (hdep : ∃ (k : Nat) (ok : Oper), ops[k]? = some ok ∧ k ≠ i ∧ ∃ e ∈ ok.after, Region.binds md e = true ∧ e.on = i) :
    ∀ (f : Nat) (listed : Array Bool) (a : Act) (w : World),
      (∀ j oj, ops[j]? = some oj → j ≠ i → listed.getD j true = false → (∀ e ∈ oj.after, Region.binds md e = true → e.on ≠ i) → oi.apart ops oj = true) →
      DownB md ops listed → ops.size ≤ listed.size → i ∈ Region.ready md ops listed → C w → (∀ W, C W → ∃ v', YieldsAt P ops W oi v' a ∧ a.put oi.dst v' = a.put oi.dst v) →
      anyD P md ops C Q f (listed.setIfInBounds i true) (a.put oi.dst v) w → anyD P md ops C Q (f + 1) listed a w := by
  intro f
  induction f with
  | zero =>
    intro listed a w _ hdn hsz hr hC hy H
    refine ⟨hC, fun h => (by rw [h] at hr; cases hr), fun j hj => ?_⟩
    by_cases hji : j = i
    · subst hji
      obtain ⟨v', hy1, hy2⟩ := hy w hC
      exact wpOp_of_stOp (fun a' h' => h') (hy1.stOp (K := fun a' => anyD P md ops C Q 0 (listed.setIfInBounds j true) a' w) hi (by rw [hy2]; exact H))
    · have h1 := (mem_ready.1 hj).1
      have h2 := H.1 j
      rw [getD_set_ne true (Ne.symm hji)] at h2
      rw [h1] at h2
      cases h2
  | succ f ih =>
    intro listed a w hfree hdn hsz hr hC hy H
    have hun := (mem_ready.1 hr).1
    refine ⟨hC, fun h => (by rw [h] at hr; cases hr), fun j hj => ?_⟩
    by_cases hji : j = i
    · subst hji
      obtain ⟨v', hy1, hy2⟩ := hy w hC
      exact wpOp_of_stOp (fun a' h' => h') (hy1.stOp (K := fun a' => anyD P md ops C Q (f + 1) (listed.setIfInBounds j true) a' w) hi (by rw [hy2]; exact H))
    · have h1 := H.2.2 j (ready_mono hj hji)
      obtain ⟨hjun, oj, hoj, hall⟩ := mem_ready.1 hj
      have hnot : ∀ e ∈ oj.after, Region.binds md e = true → e.on ≠ i := fun e he hb heq => by
        have h1 := hall e he hb
        rw [heq, getD_both hun] at h1
        cases h1
      have hap := hfree j oj hoj hji hjun hnot
      have hap3 := (Oper.apart_spec hap)
      refine wpOp_put hoj hap (fun cs b => hsel j oj cs b hoj) (fun ds u w' hk => ?_) h1
      have hCw : C w' := by
        cases f with
        | succ f => exact hk.1
        | zero =>
          exfalso
          obtain ⟨k, ok, hok, hki, e, he, hb, heo⟩ := hdep
          by_cases hkj : k = j
          · subst hkj
            rw [hoj] at hok
            cases hok
            exact hnot e he hb heo
          · have h2 := hk.1 k
            rw [getD_set_ne true (Ne.symm hkj), getD_set_ne true (Ne.symm hki)] at h2
            rcases Nat.lt_or_ge k listed.size with hks | hks
            · have h3 : listed.getD k false = true := by
                rw [Array.getD_eq_getD_getElem?, Array.getElem?_eq_getElem hks] at h2 ⊢
                simpa using h2
              have h4 := hdn k ok hok h3 e he hb
              rw [heo, getD_both hun] at h4
              cases h4
            · -- an operation that is not counted
              have h5 : k < ops.size := (Array.getElem?_eq_some_iff.1 hok).1
              omega
      refine ih (listed.setIfInBounds j true) _ w' (fun k ok hk' hki hunk hno => hfree k ok hk' hki (by
        by_cases hjk : j = k
        · subst hjk; exact hjun
        · rw [getD_set_ne true hjk] at hunk; exact hunk) hno) (hdn.add hj) (by rw [Array.size_setIfInBounds]; exact hsz) (ready_mono hr (Ne.symm hji)) hCw (fun W hW => ?_) (by rw [Array.setIfInBounds_comm _ _ hji]; exact hk)
      obtain ⟨v', hy1, hy2⟩ := hy W hW
      refine ⟨v', hy1.of_same ?_ ?_, ?_⟩
      · exact execOp_put oi (fun cs b => hsel i oi cs b hi) ({ a with defers := ds ++ a.defers } : Act) oj.dst u hap3.2.2
      · exact wanted_put oi ({ a with defers := ds ++ a.defers } : Act) oj.dst u hap3.2.2
      · have hb : ∀ x, ({ a with defers := ds ++ a.defers } : Act).put oi.dst x = { a.put oi.dst x with defers := ds ++ a.defers } := fun x => by cases oi.dst <;> rfl
        rw [← Act.put_comm _ v' u hap3.2.1, ← Act.put_comm _ v u hap3.2.1, hb, hb, hy2]
/-- the walk in an order of one's own: 'true': yields the same in the class; 'false': forced -/
def mixD (P : Program) (ops : Array Oper) (C : World → Prop) (Q : Exit → Act → World → Prop) : List (Oper × Bool) → Act → World → Prop
  | [], a, w => Q .normal a w
  | (o, true) :: r, a, w => ∃ A1, (∀ m : Held C, wpStill P ops (HeldW m) (fun a' => a' = A1) [o] a) ∧ C w ∧ mixD P ops C Q r A1 w
  | (o, false) :: r, a, w => C w ∧ wpList P ops (OnlyN fun _ a' w' => mixD P ops C Q r a' w') [o] a w
/-- something waits for operation i -/
def awaited (md : Region.Mode) (ops : Array Oper) (i : Nat) : Bool := (List.range ops.size).any fun k => decide (k ≠ i) && (match ops[k]? with | some ok => ok.after.any fun e => Region.binds md e && decide (e.on = i) | none => false)
theorem awaited_spec {i : Nat} (h : awaited md ops i = true) : ∃ (k : Nat) (ok : Oper), ops[k]? = some ok ∧ k ≠ i ∧ ∃ e ∈ ok.after, Region.binds md e = true ∧ e.on = i := by
  unfold awaited at h
  obtain ⟨k, _, hk⟩ := List.any_eq_true.1 h
  simp only [Bool.and_eq_true, decide_eq_true_eq] at hk
  obtain ⟨hne, hk⟩ := hk
  cases ho : ops[k]? with
  | none => rw [ho] at hk; cases hk
  | some ok =>
    rw [ho] at hk
    obtain ⟨e, he, hb⟩ := Array.any_eq_true'.1 hk
    simp only [Bool.and_eq_true, decide_eq_true_eq] at hb
    exact ⟨k, ok, ho, hne, e, he, hb.1, hb.2⟩
def permD (md : Region.Mode) (ops : Array Oper) : List (Nat × Bool) → Array Bool → Bool
  | [], listed => listed.all id
  | (i, true) :: r, listed => (Region.ready md ops listed).contains i && Region.free md ops listed i && awaited md ops i && permD md ops r (listed.setIfInBounds i true)
  | (i, false) :: r, listed => decide (Region.ready md ops listed = [i]) && permD md ops r (listed.setIfInBounds i true)
theorem anyD_of_mix (hs : Region.noSelect ops = true) : ∀ (perm : List (Nat × Bool)) (listed : Array Bool) (a : Act) (w : World), DownB md ops listed → ops.size ≤ listed.size → permD md ops perm listed = true → mixD P ops C Q (pickP ops perm) a w → anyD P md ops C Q perm.length listed a w
  | [], listed, a, w, _, _, hB, h => ⟨fun j => by
      simp only [permD] at hB
      rcases Nat.lt_or_ge j listed.size with hj | hj
      · rw [Array.getD_eq_getD_getElem?, Array.getElem?_eq_getElem hj]
        have := Array.all_eq_true.1 hB j hj
        simpa using this
      · rw [Array.getD_eq_getD_getElem?, Array.getElem?_eq_none hj]
        rfl, h⟩
  | (i, true) :: r, listed, a, w, hdn, hsz, hB, h => by
    simp only [permD, Bool.and_eq_true] at hB
    obtain ⟨⟨⟨hr, hf⟩, haw⟩, hB'⟩ := hB
    have hr' : i ∈ Region.ready md ops listed := by simpa using hr
    obtain ⟨_, o, ho, _⟩ := mem_ready.1 hr'
    have e : pickP ops ((i, true) :: r) = (o, true) :: pickP ops r := by unfold pickP; simp [ho]
    rw [e] at h
    obtain ⟨A1, hv, hC, hm⟩ := h
    have hst : ∀ W, C W → ∃ v', YieldsAt P ops W o v' a ∧ a.put o.dst v' = A1 := fun W hW => by
      have h1 : stOp P ops W i (fun a' => a' = A1) a := by unfold stOp; simp only [ho]; exact hv ⟨W, hW⟩
      exact yieldsAt_of_stOp ho h1
    obtain ⟨v, _, rfl⟩ := hst w hC
    exact anyD_first ho (Region.noSelect_spec hs) (awaited_spec haw) r.length listed a w (Region.free_spec ho hf) hdn hsz hr' hC hst (anyD_of_mix hs r _ _ w (hdn.add hr') (by rw [Array.size_setIfInBounds]; exact hsz) hB' hm)
  | (i, false) :: r, listed, a, w, hdn, hsz, hB, h => by
    simp only [permD, Bool.and_eq_true, decide_eq_true_eq] at hB
    obtain ⟨hr, hB'⟩ := hB
    have hr' : i ∈ Region.ready md ops listed := by rw [hr]; simp
    obtain ⟨_, o, ho, _⟩ := mem_ready.1 hr'
    have e : pickP ops ((i, false) :: r) = (o, false) :: pickP ops r := by unfold pickP; simp [ho]
    rw [e] at h
    obtain ⟨hC, hw⟩ := h
    refine ⟨hC, by rw [hr]; simp, fun j hj => ?_⟩
    rw [hr] at hj
    obtain rfl : j = i := by simpa using hj
    have hgo : ∀ (a' : Act) (w' : World), mixD P ops C Q (pickP ops r) a' w' → anyD P md ops C Q r.length (listed.setIfInBounds j true) a' w' := fun a' w' hm => anyD_of_mix hs r _ a' w' (hdn.add hr') (by rw [Array.size_setIfInBounds]; exact hsz) hB' hm
    unfold wpOp
    simp only [ho]
    simp only [wpList] at hw
    split
    · rename_i hwt
      rw [if_pos hwt] at hw
      rcases hw with hw | hw
      · left
        unfold Oper.wp at *
        generalize (execOp a.eval o).run P w = res at *
        cases res with
        | ok n w' =>
          cases n <;> simp only [Oper.upon] at hw ⊢
          case value u => exact hgo _ _ hw
          case skip => exact hgo _ _ hw
          case defer d => exact hgo _ _ hw
          case enter f args => exact Calls.mono hw (fun e w'' he => by
            cases e
            · exact hgo _ _ he
            · exact he
            · exact absurd he OnlyN.out)
          case row row args => exact Rows.mono hw (fun v w'' he => hgo _ _ he)
        | halt x w' => cases x <;> simp only [Oper.upon] at hw ⊢ <;> exact hw
      · exact absurd hw.2 OnlyN.out
    · rename_i hwt
      rw [if_neg hwt] at hw
      exact hgo _ _ hw
end
theorem wp_region_mixD {P : Program} (C : World → Prop) (perm : List (Nat × Bool)) {id : Nat} {Q : Exit → Act → World → Prop} {a : Act} {w : World} {l : List Oper} (hm : P.follows .mixedOrders = true)
    (hB : (Region.noSelect l.toArray && decide (perm.length = l.length) && permD .any l.toArray perm (Array.replicate l.length false)) = true)
    (h : mixD P l.toArray C Q (pickP l.toArray perm) a w.drew) : (Code.region id l.toArray true).wp P Q a w := by
  simp only [Bool.and_eq_true, decide_eq_true_eq] at hB
  obtain ⟨⟨hs, hl⟩, hp⟩ := hB
  refine Code.wp_mono OnlyN.imp (wp_region_any hm (wpAny_of_anyD (C := C) _ _ _ _ ?_))
  have := anyD_of_mix (C := C) (Q := Q) hs perm (Array.replicate l.length false) a w.drew (fun k ok _ hl => by
    rw [Array.getD_eq_getD_getElem?] at hl
    rcases Nat.lt_or_ge k l.length with hk | hk
    · simp [hk] at hl
    · rw [Array.getElem?_eq_none (by simpa using hk)] at hl
      cases hl) (by simp) hp h
  rw [hl] at this
  simpa using this
theorem mixD_nil {P : Program} {ops : Array Oper} {C : World → Prop} {Q : Exit → Act → World → Prop} {a : Act} {w : World} (h : Q .normal a w) : mixD P ops C Q [] a w := h
theorem mixD_first {P : Program} {ops : Array Oper} {C : World → Prop} {Q : Exit → Act → World → Prop} {o : Oper} {r : List (Oper × Bool)} {a : Act} {w : World}
    (h : ∃ A1, (∀ m : Held C, wpQuiet P ops (fun w' => ∃ _ : Unit, w' = HeldW m) (fun a' => a' = A1) [o] a) ∧ C w ∧ mixD P ops C Q r A1 w) : mixD P ops C Q ((o, true) :: r) a w := by
  obtain ⟨A1, h1, h2, h3⟩ := h
  exact ⟨A1, fun m => still_of_quiet (h1 m), h2, h3⟩
theorem mixD_forced {P : Program} {ops : Array Oper} {C : World → Prop} {Q : Exit → Act → World → Prop} {o : Oper} {r : List (Oper × Bool)} {a : Act} {w : World} (hC : C w)
    (h : wpList P ops (OnlyN fun _ a' w' => mixD P ops C Q r a' w') [o] a w) : mixD P ops C Q ((o, false) :: r) a w := ⟨hC, h⟩
end Sw
/- What is done at a path: away and come of plan's maker. -/
set_option linter.unusedVariables false
set_option linter.unusedSimpArgs false
namespace Go.Proofs.YtmpgmgjokliceaaGreatDoor
open Go Go.RowKit
open Sw
theorem inside_top {tops : List ByteArray} {p : ByteArray} (h : isTop tops p = true) : insideN tops p = true := by
  unfold isTop at h
  unfold insideN
  rw [List.any_eq_true] at h ⊢
  obtain ⟨t, ht, e⟩ := h
  exact ⟨t, ht, by rw [e]; rfl⟩
theorem mkr_app {U X : World} {base gm n : Nat} {cs : Array Value} {o : Value} {xs : List Value} (hB : Blk U gm 76 cs) (ho : U.ownsRow base 40 7 o n xs) (hgr : U.grownBy X o.ownBlock) : Blk X gm 76 cs :=
  hB.grown hgr (fun e => own_ne_blk ho hB (by decide) e.symm)
theorem undT_lenP (p : ByteArray) (xs : List NE) : (undT p xs).length ≤ xs.length := List.length_filter_le _ _
theorem undT_data {p : ByteArray} {xs : List NE} {m : Nat} (h : ∀ e ∈ xs, e.2.data.size ≤ m) : ∀ e ∈ undT p xs, e.2.data.size ≤ m := fun e he => h e ((List.mem_filter.1 he).1)
set_option maxRecDepth 100000 in
set_option maxHeartbeats 4000000 in
theorem mkrSame_any (w : World) (base gm bt bm bt2 bm2 : Nat) (tv : Value) (tops : List ByteArray) (xs ys : List NE) (l : List (StepP × Value)) (p : ByteArray) (h : MkrAt base gm bt bm bt2 bm2 tv tops xs ys l w) (hxl : xs.length ≤ 1000) (hyl : ys.length ≤ 1000) (hp : p.size ≤ 90000) (hxd : ∀ e ∈ xs, e.2.data.size ≤ maxLen) (hyd : ∀ e ∈ ys, e.2.data.size ≤ maxLen) :
    Calls Tryz.prog 94 #[.pointer (some ⟨gm, 0, none⟩), .string p] w fun e w' => e = .returned (.bool (sameN (undT p xs) (undT p ys))) ∧ Below w.heap.size w w' := by
  have HU1 := Lib.hid (fun W (hb : Aft w W) => treeUnder_any W bt bm xs p (h.t.below hb) hxl hp)
  have HU2 := Lib.hid (fun W (hb : Aft w W) => treeUnder_any W bt2 bm2 ys p (h.t2.below hb) hyl hp)
  have HD := Lib.hid (And.intro (undT_data (p := p) hxd) (And.intro (undT_data (p := p) hyd) (And.intro (undT_lenP p xs) (undT_lenP p ys))))
  obtain ⟨o, hB, -⟩ := h.box
  have hl := hB.lt
  have k0 : ∀ m : Held (Aft w), (HeldW m).cell? ⟨gm, 0, none⟩ = some (.pointer (some ⟨bt, 0, none⟩)) := fun m => (Aft.cell m hl).trans (hB.cell 0)
  have k1 : ∀ m : Held (Aft w), (HeldW m).cell? ⟨gm, 1, none⟩ = some (.pointer (some ⟨bt2, 0, none⟩)) := fun m => (Aft.cell m hl).trans (hB.cell 1)
  have HC0 := Lib.hid (Aft.start w)
  generalize undT p xs = us at *
  generalize undT p ys = vs at *
  clear h hB hl hxd hyd
  go_enter Tryz.func94, Tryz.ntmps94
  go_upto_region 2 with fail
  refine wp_region_mix (Aft w) [(0, true), (1, true), (2, true), (3, true), (4, true), (6, true), (7, true), (8, true), (9, true), (10, true), (12, true), (5, false), (11, false), (13, false), (14, true)] (by kernel_rfl) (by kernel_rfl) ?_
  simp only [pickP, List.filterMap_cons, List.filterMap_nil, List.getElem?_toArray, List.getElem?_cons_succ, List.getElem?_cons_zero, Option.map_some]
  repeat (apply mix_first; apply Exists.intro; refine ⟨fun m => ?_, HC0.out, ?_⟩; · (go_big_quiet_step (fail); exact wpQuiet_nil rfl))
  clear k0 k1
  refine mix_forced HC0.out ?_
  go_wp2_with fail
  refine (HU1.out w.drew HC0.out).mono ?_
  rintro e w1 ⟨r1, rfl, ho1, hb1⟩
  have HC1 := Lib.hid (Aft.keep _ _ HC0.out hb1)
  have HO1 := Lib.hid ho1.slv
  obtain ⟨A1, c1, rfl, _, _, _⟩ := SlV_of_any ho1
  clear ho1 hb1 HC0 HU1
  go_wp2_with fail
  show mixC _ _ _ _ _ _ _
  refine mix_forced HC1.out ?_
  go_wp2_with fail
  refine (HU2.out w1 HC1.out).mono ?_
  rintro e w2 ⟨r2, rfl, ho2, hb2⟩
  have HC2 := Lib.hid (Aft.keep _ _ HC1.out hb2)
  have HEQ := Lib.hid (eqFuncIT_any w2 _ _ us vs (HO1.out.below hb2 (Nat.le_refl _)) ho2.slv (by have := HD.out.2.2.1; omega) (by have := HD.out.2.2.2; omega) HD.out.1 HD.out.2.1)
  obtain ⟨A2, c2, rfl, _, _, _⟩ := SlV_of_any ho2
  clear ho2 hb2 HC1 HU2 HO1
  go_wp2_with fail
  show mixC _ _ _ _ _ _ _
  refine mix_forced HC2.out ?_
  go_wp2_with fail
  refine HEQ.out.mono ?_
  rintro e w3 ⟨rfl, hb3⟩
  have HC3 := Lib.hid (Aft.keep _ _ HC2.out hb3)
  clear hb3 HC2 HEQ
  go_wp2_with fail
  show mixC _ _ _ _ _ _ _
  repeat (apply mix_first; apply Exists.intro; refine ⟨fun m => ?_, HC3.out, ?_⟩; · (go_big_quiet_step (fail); exact wpQuiet_nil rfl))
  refine mix_nil HC3.out ?_
  go_wp2_with fail
  go_ret
  exact ⟨rfl, HC3.out⟩
/-- what away and come leave -/
def MkrPost (base gm bt bm bt2 bm2 : Nat) (tv : Value) (tops : List ByteArray) (xs ys : List NE) (l : List (StepP × Value)) (r : Option StepP) (w : World) (e : Ending) (w' : World) : Prop :=
  e = .returned (.tuple #[]) ∧ ∃ l2, l2.map Prod.fst = r.toList ∧ MkrAt base gm bt bm bt2 bm2 tv tops xs ys (l ++ l2) w' ∧ AddK base w w'
theorem MkrPost.none {base gm bt bm bt2 bm2 : Nat} {tv : Value} {tops : List ByteArray} {xs ys : List NE} {l : List (StepP × Value)} {w w' : World} (h : MkrAt base gm bt bm bt2 bm2 tv tops xs ys l w) (hB : base ≤ w.heap.size) (hb : Below w.heap.size w w') : MkrPost base gm bt bm bt2 bm2 tv tops xs ys l none w (.returned (.tuple #[])) w' :=
  ⟨rfl, [], rfl, by rw [List.append_nil]; exact h.below hb, AddK.below hb hB⟩
theorem MkrPost.one {base gm bt bm bt2 bm2 : Nat} {tv : Value} {tops : List ByteArray} {xs ys : List NE} {l : List (StepP × Value)} {w w' : World} {s : StepP × Value} (h : MkrAt base gm bt bm bt2 bm2 tv tops xs ys (l ++ [s]) w' ∧ AddK base w w') : MkrPost base gm bt bm bt2 bm2 tv tops xs ys l (some s.1) w (.returned (.tuple #[])) w' :=
  ⟨rfl, [s], rfl, h.1, h.2⟩
theorem getT_sz32 {xs : List NE} {p : ByteArray} {n : Nat} (hu : Up ordS xs) (h : ∀ e ∈ xs, e.2.data.size ≤ n) : (getT xs p).data.size ≤ n := by
  rcases Classical.em (∃ e ∈ xs, e.1 = p) with ⟨e, he, rfl⟩ | hn
  · rw [getT_in hu he]; exact h e he
  · rw [getT_out hu (fun e he h => hn ⟨e, he, h⟩)]; exact Nat.zero_le _
set_option maxRecDepth 100000 in
set_option maxHeartbeats 8000000 in
theorem away_any (w : World) (base gm bt bm bt2 bm2 : Nat) (tv : Value) (tops : List ByteArray) (xs ys : List NE) (l : List (StepP × Value)) (p : ByteArray) (top : Bool) (h : MkrAt base gm bt bm bt2 bm2 tv tops xs ys l w) (hgm : base ≤ gm) (hll : l.length ≤ 100000) (hxl : xs.length ≤ 1000) (hyl : ys.length ≤ 1000) (htl : tops.length ≤ 1000) (hp : p.size ≤ 90000) (hxd : ∀ e ∈ xs, e.2.data.size ≤ maxLen) (hyd : ∀ e ∈ ys, e.2.data.size ≤ maxLen) (htop : isTop tops p = top) :
    Calls Tryz.prog 38 #[.pointer (some ⟨gm, 0, none⟩), .string p, .bool top] w (MkrPost base gm bt bm bt2 bm2 tv tops xs ys l (awayN xs ys tops p) w) := by
  have hB0 : base ≤ w.heap.size := by obtain ⟨o, hB', _⟩ := h.box; exact Nat.le_trans hgm (Nat.le_of_lt hB'.lt)
  have HU1 := Lib.hid (fun W (hb : Below w.heap.size w W) => treeUnder_any W bt bm xs p (h.t.below hb) hxl hp)
  have HU2 := Lib.hid (fun W (hb : Below w.heap.size w W) => treeUnder_any W bt2 bm2 ys p (h.t2.below hb) hyl hp)
  have HG1 := Lib.hid (fun W (hb : Below w.heap.size w W) => treeGet_any W bt bm xs p (h.t.below hb) (by omega) hp)
  have HG2 := Lib.hid (fun W (hb : Below w.heap.size w W) => treeGet_any W bt2 bm2 ys p (h.t2.below hb) (by omega) hp)
  have HIN := Lib.hid (fun W (hb : Below w.heap.size w W) => inside_any W p tv tops hp ((h.tops.below hb).slv sE_lenP) (by omega))
  have HSM := Lib.hid (fun W (hb : Below w.heap.size w W) => mkrSame_any W base gm bt bm bt2 bm2 tv tops xs ys l p (h.below hb) hxl hyl hp hxd hyd)
  have HUL := Lib.hid (And.intro (undT_lenP p xs) (undT_lenP p ys))
  have HGX := Lib.hid (And.intro (getT_sz32 (p := p) h.t.map.up hxd) (getT_sz32 (p := p) h.t2.map.up hyd))
  obtain ⟨o, hB, ho⟩ := h.box
  obtain ⟨n, hn⟩ : ∃ n, l.length = n := ⟨_, rfl⟩
  have hn2 : n ≤ 100000 := by rw [← hn]; exact hll
  have ho' := ho
  rw [hn] at ho'
  have HH := Lib.hid (And.intro h (And.intro hB (And.intro ho (And.intro ho' (And.intro hn hB0)))))
  have hfld := nodeField0
  obtain ⟨Ao, co, rfl, _, _, _⟩ := SlV_of_any ho'
  have htv : ∃ At nt ct, tv = .slice At nt ct := by obtain ⟨A, c, e, _⟩ := h.tops; exact ⟨A, _, c, e⟩
  obtain ⟨At, nt, ct, rfl⟩ := htv
  have y0 := hB.cell 0
  have y1 := hB.cell 1
  have y2 := hB.cell 2
  have y3 := hB.cell 3
  simp only [List.getElem?_toArray, List.getElem?_cons_succ, List.getElem?_cons_zero] at y0 y1 y2 y3
  obtain ⟨R, hR⟩ : ∃ R, awayN xs ys tops p = R := ⟨_, rfl⟩
  have hR2 := hR
  unfold awayN at hR2
  rw [htop] at hR2
  have HR := Lib.hid hR2
  have HTI := Lib.hid (fun (h : top = true) => inside_top (htop.trans h))
  rw [hR]
  clear h hB ho ho' hn hB0 hR hR2 hxd hyd htop hll
  generalize undT p xs = us at *
  generalize undT p ys = vs at *
  generalize insideN tops p = IN at *
  generalize getT xs p = nx at *
  generalize getT ys p = ny at *
  obtain ⟨xk, xm, xt, xd⟩ := nx
  obtain ⟨yk, ym, yt, yd⟩ := ny
  simp only [Nd.c] at HG1 HG2
  cases top with
  | false =>
    go_enter Tryz.func38, Tryz.ntmps38
    go_wp2_with fail
    refine (HIN.out w (Below.refl _ _)).mono ?_
    rintro e w1 ⟨rfl, hb1⟩
    have HB1 := Lib.hid hb1
    have hB1 := HH.out.2.1.below hb1 HH.out.2.1.lt
    clear hb1 y0 y1 y2 y3
    have y0 := hB1.cell 0
    have y1 := hB1.cell 1
    have y2 := hB1.cell 2
    have y3 := hB1.cell 3
    simp only [List.getElem?_toArray, List.getElem?_cons_succ, List.getElem?_cons_zero] at y0 y1 y2 y3
    clear hB1
    cases IN with
    | true =>
      go_wp2_with fail
      go_end0
      have : R = none := by rw [← HR.out]; simp
      rw [this]
      exact MkrPost.none HH.out.1 HH.out.2.2.2.2.2 HB1.out
    | false =>
      go_wp2_with fail
      refine (HG1.out w1 HB1.out).mono ?_
      rintro e w2 ⟨rfl, hb2⟩
      have HB2 := Lib.hid (HB1.out.trans (hb2.mono HB1.out.size))
      have hB2 := HH.out.2.1.below HB2.out HH.out.2.1.lt
      clear hb2 y0 y1 y2 y3
      have y0 := hB2.cell 0
      have y1 := hB2.cell 1
      have y2 := hB2.cell 2
      have y3 := hB2.cell 3
      simp only [List.getElem?_toArray, List.getElem?_cons_succ, List.getElem?_cons_zero] at y0 y1 y2 y3
      clear hB2
      by_cases hx0 : xk = 0
      · have tx : (xk != 0) = false := by simpa using hx0
        have HX := Lib.hid hx0
        clear hx0
        go_wp2_with fail
        go_end0
        have : R = none := by rw [← HR.out]; simp [HX.out]
        rw [this]
        exact MkrPost.none HH.out.1 HH.out.2.2.2.2.2 HB2.out
      · have tx : (xk != 0) = true := by simpa using hx0
        have HX := Lib.hid hx0
        clear hx0
        go_wp2_with fail
        refine (HG2.out w2 HB2.out).mono ?_
        rintro e w3 ⟨rfl, hb3⟩
        have HB3 := Lib.hid (HB2.out.trans (hb3.mono HB2.out.size))
        clear hb3 y0 y1 y2 y3
        by_cases hy0 : yk = 0
        · have ty : (yk == 0) = true := by simpa using hy0
          have hR3 : R = some ⟨p, ndZ, false, []⟩ := by rw [← HR.out]; simp [HX.out, hy0]
          have HR3 := Lib.hid hR3
          clear hy0 HR hR3
          have hBk := HH.out.2.1.below HB3.out HH.out.2.1.lt
          have hok := own_kept HH.out.2.2.2.1 HB3.out
          have y0 := hBk.cell 0
          have y1 := hBk.cell 1
          have y2 := hBk.cell 2
          have y3 := hBk.cell 3
          simp only [List.getElem?_toArray, List.getElem?_cons_succ, List.getElem?_cons_zero] at y0 y1 y2 y3
          have HOK := Lib.hid (And.intro hBk (And.intro hok (own_kept HH.out.2.2.1 HB3.out)))
          have hbase : base ≤ w3.heap.size := Nat.le_trans HH.out.2.2.2.2.2 HB3.out.size
          clear hBk hok
          go_wp2_with (at_builtin; go_loud (refine wpList_app rfl _ _ 31 rfl base 40 (.agg #[.string ⟨#[]⟩, .int .i64 0, .int .i64 0, .int .u32 0, .string ⟨#[]⟩, .bool false, .slice none 0 0]) 7 88 Tryz.underlying31 infoSt rfl (by decide) (.slice Ao n co) n _ rfl (HOK.out.2.1.alloc _) w3.heap.size 1 #[.string p, .int .i64 0, .int .i64 0, .int .u32 0, .string ⟨#[]⟩, .bool false, .slice none 0 0] 40 rfl (Blk.new _ _ _) rfl (by intro u hu; simp at hu; rcases hu with rfl | rfl | rfl | rfl | rfl | rfl | rfl <;> rfl) (by omega) (by decide) (by simp; omega) _ rfl ?_; intro g cap X hown hgr hbk hgl; have hBX := mkr_app (HOK.out.1.alloc _) (HOK.out.2.1.alloc _) hgr; have c3 := hBX.cell 3; have f3 := hBX.frozen 3; simp only [List.getElem?_toArray, List.getElem?_cons_succ, List.getElem?_cons_zero] at c3))
          have HF := Lib.hid (HH.out.1.add hgm HB3.out HOK.out.1 HOK.out.2.2 ((Below.refl _ _).alloc (Nat.le_refl _) _) hgr HH.out.2.2.2.2.1 (s := (⟨p, ndZ, false, []⟩, .slice none 0 0)) hown (Lies.nil _ _ _ _))
          clear hown hgr hbk hgl hBX c3 f3
          go_end0
          rw [HR3.out]
          exact MkrPost.one HF.out
        · have ty : (yk == 0) = false := by simpa using hy0
          have HY := Lib.hid hy0
          clear hy0
          have hB3 := HH.out.2.1.below HB3.out HH.out.2.1.lt
          go_wp2_with fail
          go_end0
          have : R = none := by rw [← HR.out]; simp [HY.out]
          rw [this]
          exact MkrPost.none HH.out.1 HH.out.2.2.2.2.2 HB3.out
  | true =>
    have hIN := HTI.out rfl
    subst hIN
    go_enter Tryz.func38, Tryz.ntmps38
    go_wp2_with fail
    refine (HU1.out w (Below.refl _ _)).mono ?_
    rintro e w1 ⟨r1, rfl, ho1, hb1⟩
    have HB1 := Lib.hid hb1
    have hB1 := HH.out.2.1.below hb1 HH.out.2.1.lt
    obtain ⟨A1, c1, rfl, _, _, _⟩ := SlV_of_any ho1
    clear hb1 ho1 y0 y1 y2 y3
    have y0 := hB1.cell 0
    have y1 := hB1.cell 1
    have y2 := hB1.cell 2
    have y3 := hB1.cell 3
    simp only [List.getElem?_toArray, List.getElem?_cons_succ, List.getElem?_cons_zero] at y0 y1 y2 y3
    clear hB1
    cases us with
    | nil =>
      simp only [List.length_nil]
      go_wp2_with fail
      refine (HIN.out w1 HB1.out).mono ?_
      rintro e w2 ⟨rfl, hb2⟩
      have HB2 := Lib.hid (HB1.out.trans (hb2.mono HB1.out.size))
      clear hb2
      go_wp2_with fail
      go_end0
      have : R = none := by rw [← HR.out]; simp
      rw [this]
      exact MkrPost.none HH.out.1 HH.out.2.2.2.2.2 HB2.out
    | cons u0 us =>
      obtain ⟨nu, hnu⟩ : ∃ k, (u0 :: us).length = k := ⟨_, rfl⟩
      have hnu0 : (0 : Int) < nu := by rw [← hnu]; simp only [List.length_cons]; omega
      rw [hnu]
      clear hnu
      go_wp2_with fail
      refine (HU2.out w1 HB1.out).mono ?_
      rintro e w2 ⟨r2, rfl, ho2, hb2⟩
      have HB2 := Lib.hid (HB1.out.trans (hb2.mono HB1.out.size))
      have hB2 := HH.out.2.1.below HB2.out HH.out.2.1.lt
      obtain ⟨A2, c2, rfl, _, _, _⟩ := SlV_of_any ho2
      clear hb2 ho2 y0 y1 y2 y3
      cases vs with
      | nil =>
        have hR3 : R = some ⟨p, ndZ, true, []⟩ := by rw [← HR.out]; simp
        have HR3 := Lib.hid hR3
        simp only [List.length_nil]
        clear HR hR3 hB2
        have hBk := HH.out.2.1.below HB2.out HH.out.2.1.lt
        have hok := own_kept HH.out.2.2.2.1 HB2.out
        have y0 := hBk.cell 0
        have y1 := hBk.cell 1
        have y2 := hBk.cell 2
        have y3 := hBk.cell 3
        simp only [List.getElem?_toArray, List.getElem?_cons_succ, List.getElem?_cons_zero] at y0 y1 y2 y3
        have HOK := Lib.hid (And.intro hBk (And.intro hok (own_kept HH.out.2.2.1 HB2.out)))
        have hbase : base ≤ w2.heap.size := Nat.le_trans HH.out.2.2.2.2.2 HB2.out.size
        clear hBk hok
        go_wp2_with (at_builtin; go_loud (refine wpList_app rfl _ _ 31 rfl base 40 (.agg #[.string ⟨#[]⟩, .int .i64 0, .int .i64 0, .int .u32 0, .string ⟨#[]⟩, .bool false, .slice none 0 0]) 7 88 Tryz.underlying31 infoSt rfl (by decide) (.slice Ao n co) n _ rfl (HOK.out.2.1.alloc _) w2.heap.size 1 #[.string p, .int .i64 0, .int .i64 0, .int .u32 0, .string ⟨#[]⟩, .bool true, .slice none 0 0] 40 rfl (Blk.new _ _ _) rfl (by intro u hu; simp at hu; rcases hu with rfl | rfl | rfl | rfl | rfl | rfl | rfl <;> rfl) (by omega) (by decide) (by simp; omega) _ rfl ?_; intro g cap X hown hgr hbk hgl; have hBX := mkr_app (HOK.out.1.alloc _) (HOK.out.2.1.alloc _) hgr; have c3 := hBX.cell 3; have f3 := hBX.frozen 3; simp only [List.getElem?_toArray, List.getElem?_cons_succ, List.getElem?_cons_zero] at c3))
        have HF := Lib.hid (HH.out.1.add hgm HB2.out HOK.out.1 HOK.out.2.2 ((Below.refl _ _).alloc (Nat.le_refl _) _) hgr HH.out.2.2.2.2.1 (s := (⟨p, ndZ, true, []⟩, .slice none 0 0)) hown (Lies.nil _ _ _ _))
        clear hown hgr hbk hgl hBX c3 f3
        go_end0
        rw [HR3.out]
        exact MkrPost.one HF.out
      | cons v0 vs =>
        obtain ⟨nv, hnv⟩ : ∃ k, (v0 :: vs).length = k := ⟨_, rfl⟩
        have hnv0 : ¬ (nv : Int) = 0 := by rw [← hnv]; simp; omega
        rw [hnv]
        clear hnv
        have y0 := hB2.cell 0
        have y1 := hB2.cell 1
        have y2 := hB2.cell 2
        have y3 := hB2.cell 3
        simp only [List.getElem?_toArray, List.getElem?_cons_succ, List.getElem?_cons_zero] at y0 y1 y2 y3
        clear hB2
        go_wp2_with fail
        refine (HIN.out w2 HB2.out).mono ?_
        rintro e w3 ⟨rfl, hb3⟩
        have HB3 := Lib.hid (HB2.out.trans (hb3.mono HB2.out.size))
        clear hb3
        go_wp2_with fail
        go_end0
        have : R = none := by rw [← HR.out]; simp
        rw [this]
        exact MkrPost.none HH.out.1 HH.out.2.2.2.2.2 HB3.out
end Go.Proofs.YtmpgmgjokliceaaGreatDoor
