/- Several texts, joined for the limit of sixty files; each one opens with its own comment. -/
import Derived.Test.YtjcbjocgachpjaaGreatDoorJoin25
import Derived.Test.YtjcbjocgachpjaaGreatDoorJoin26
import Derived.Test.YtjcbjocgachpjaaGreatDoorJoin19
import Derived.RangeFuncFrom
import Derived.RangeFuncNested
import Derived.RangeFuncBound
import Derived.RangeFuncCalls
import Derived.RangeFuncLeaves
import Derived.Shelf.Abstract
import Derived.Shelf.RegionOpen
import Derived.WalkKit
import Derived.OwnWalkIn
import Derived.TacticsInMore
import Derived.LoopNIn
import Derived.LoopIn
import Derived.Lib.IndexLaws
import Derived.Test.YtjcbjocgachpjaaGreatDoorJoin3
import Derived.Test.YtjcbjocgachpjaaGreatDoorJoin18
import Derived.Test.YtjcbjocgachpjaaGreatDoorJoin17
import Derived.Test.YtjcbjocgachpjaaGreatDoorJoin13
import Derived.Test.YtjcbjocgachpjaaGreatDoorJoin4
/- As XChain, but the class of worlds need not hold behind the last operation (a store that ends what the class says). Over any program. -/
set_option linter.unusedVariables false
set_option linter.unusedSimpArgs false
namespace Sw
open Go
section
variable {P : Program} {ops : Array Oper} {md : Region.Mode} {Q : Exit → Act → World → Prop} {C : World → Prop}
/-- whatever is listed, all that it waits for is listed -/
def DownB (md : Region.Mode) (ops : Array Oper) (listed : Array Bool) : Prop := ∀ (k : Nat) (ok : Oper), ops[k]? = some ok → listed.getD k false = true → ∀ e ∈ ok.after, Region.binds md e = true → listed.getD e.on false = true
theorem DownB.add {listed : Array Bool} (h : DownB md ops listed) {i : Nat} (hi : i ∈ Region.ready md ops listed) : DownB md ops (listed.setIfInBounds i true) := by
  intro k ok hk hl e he hb
  by_cases hki : i = k
  · subst hki
    obtain ⟨_, o, ho, hall⟩ := mem_ready.1 hi
    rw [hk] at ho
    cases ho
    exact getD_set_true (hall e he hb)
  · rw [getD_set_ne false hki] at hl
    exact getD_set_true (h k ok hk hl e he hb)
def anyD (P : Program) (md : Region.Mode) (ops : Array Oper) (C : World → Prop) (Q : Exit → Act → World → Prop) : Nat → Array Bool → Act → World → Prop
  | 0, listed, a, w => (∀ j, listed.getD j true = true) ∧ Q .normal a w
  | f + 1, listed, a, w => C w ∧ Region.ready md ops listed ≠ [] ∧ ∀ i ∈ Region.ready md ops listed, wpOp P ops (OnlyN Q) i (anyD P md ops C Q f (listed.setIfInBounds i true)) a w
theorem wpAny_of_anyD : ∀ (f : Nat) (listed : Array Bool) (a : Act) (w : World), anyD P md ops C Q f listed a w → wpAny P md ops (OnlyN Q) f listed a w
  | 0, listed, a, w, h => ⟨by
      rw [List.eq_nil_iff_forall_not_mem]
      intro j hj
      have := (mem_ready.1 hj).1
      rw [h.1 j] at this
      exact absurd this (by decide), h.2⟩
  | f + 1, listed, a, w, h => ⟨fun h0 => absurd h0 h.2.1, fun i hi => wpOp_mono (fun a w => wpAny_of_anyD f _ a w) (h.2.2 i hi)⟩
theorem anyD_first {i : Nat} {oi : Oper} {v : Value} (hi : ops[i]? = some oi) (hsel : ∀ (j : Nat) (o : Oper) cs b, ops[j]? = some o → o.op ≠ .select cs b)
    (hdep : ∃ (k : Nat) (ok : Oper), ops[k]? = some ok ∧ k ≠ i ∧ ∃ e ∈ ok.after, Region.binds md e = true ∧ e.on = i) :
    ∀ (f : Nat) (listed : Array Bool) (a : Act) (w : World),
      (∀ j oj, ops[j]? = some oj → j ≠ i → listed.getD j true = false → (∀ e ∈ oj.after, Region.binds md e = true → e.on ≠ i) → oi.apart ops oj = true) →
      DownB md ops listed → ops.size ≤ listed.size → i ∈ Region.ready md ops listed → C w → (∀ W, C W → ∃ v', YieldsAt P ops W oi v' a ∧ a.put oi.dst v' = a.put oi.dst v) →
      anyD P md ops C Q f (listed.setIfInBounds i true) (a.put oi.dst v) w → anyD P md ops C Q (f + 1) listed a w := by
  intro f
  induction f with
  | zero =>
    intro listed a w _ hdn hsz hr hC hy H
    refine ⟨hC, fun h => (by rw [h] at hr; cases hr), fun j hj => ?_⟩
    by_cases hji : j = i
    · subst hji
      obtain ⟨v', hy1, hy2⟩ := hy w hC
      exact wpOp_of_stOp (fun a' h' => h') (hy1.stOp (K := fun a' => anyD P md ops C Q 0 (listed.setIfInBounds j true) a' w) hi (by rw [hy2]; exact H))
    · have h1 := (mem_ready.1 hj).1
      have h2 := H.1 j
      rw [getD_set_ne true (Ne.symm hji)] at h2
      rw [h1] at h2
      cases h2
  | succ f ih =>
    intro listed a w hfree hdn hsz hr hC hy H
    have hun := (mem_ready.1 hr).1
    refine ⟨hC, fun h => (by rw [h] at hr; cases hr), fun j hj => ?_⟩
    by_cases hji : j = i
    · subst hji
      obtain ⟨v', hy1, hy2⟩ := hy w hC
      exact wpOp_of_stOp (fun a' h' => h') (hy1.stOp (K := fun a' => anyD P md ops C Q (f + 1) (listed.setIfInBounds j true) a' w) hi (by rw [hy2]; exact H))
    · have h1 := H.2.2 j (ready_mono hj hji)
      obtain ⟨hjun, oj, hoj, hall⟩ := mem_ready.1 hj
      have hnot : ∀ e ∈ oj.after, Region.binds md e = true → e.on ≠ i := fun e he hb heq => by
        have h1 := hall e he hb
        rw [heq, getD_both hun] at h1
        cases h1
      have hap := hfree j oj hoj hji hjun hnot
      have hap3 := (Oper.apart_spec hap)
      refine wpOp_put hoj hap (fun cs b => hsel j oj cs b hoj) (fun ds u w' hk => ?_) h1
      have hCw : C w' := by
        cases f with
        | succ f => exact hk.1
        | zero =>
          exfalso
          obtain ⟨k, ok, hok, hki, e, he, hb, heo⟩ := hdep
          by_cases hkj : k = j
          · subst hkj
            rw [hoj] at hok
            cases hok
            exact hnot e he hb heo
          · have h2 := hk.1 k
            rw [getD_set_ne true (Ne.symm hkj), getD_set_ne true (Ne.symm hki)] at h2
            rcases Nat.lt_or_ge k listed.size with hks | hks
            · have h3 : listed.getD k false = true := by
                rw [Array.getD_eq_getD_getElem?, Array.getElem?_eq_getElem hks] at h2 ⊢
                simpa using h2
              have h4 := hdn k ok hok h3 e he hb
              rw [heo, getD_both hun] at h4
              cases h4
            · -- an operation that is not counted
              have h5 : k < ops.size := (Array.getElem?_eq_some_iff.1 hok).1
              omega
      refine ih (listed.setIfInBounds j true) _ w' (fun k ok hk' hki hunk hno => hfree k ok hk' hki (by
        by_cases hjk : j = k
        · subst hjk; exact hjun
        · rw [getD_set_ne true hjk] at hunk; exact hunk) hno) (hdn.add hj) (by rw [Array.size_setIfInBounds]; exact hsz) (ready_mono hr (Ne.symm hji)) hCw (fun W hW => ?_) (by rw [Array.setIfInBounds_comm _ _ hji]; exact hk)
      obtain ⟨v', hy1, hy2⟩ := hy W hW
      refine ⟨v', hy1.of_same ?_ ?_, ?_⟩
      · exact execOp_put oi (fun cs b => hsel i oi cs b hi) ({ a with defers := ds ++ a.defers } : Act) oj.dst u hap3.2.2
      · exact wanted_put oi ({ a with defers := ds ++ a.defers } : Act) oj.dst u hap3.2.2
      · have hb : ∀ x, ({ a with defers := ds ++ a.defers } : Act).put oi.dst x = { a.put oi.dst x with defers := ds ++ a.defers } := fun x => by cases oi.dst <;> rfl
        rw [← Act.put_comm _ v' u hap3.2.1, ← Act.put_comm _ v u hap3.2.1, hb, hb, hy2]
/-- the walk in an order of one's own: 'true': yields the same in the class; 'false': forced -/
def mixD (P : Program) (ops : Array Oper) (C : World → Prop) (Q : Exit → Act → World → Prop) : List (Oper × Bool) → Act → World → Prop
  | [], a, w => Q .normal a w
  | (o, true) :: r, a, w => ∃ A1, (∀ m : Held C, wpStill P ops (HeldW m) (fun a' => a' = A1) [o] a) ∧ C w ∧ mixD P ops C Q r A1 w
  | (o, false) :: r, a, w => C w ∧ wpList P ops (OnlyN fun _ a' w' => mixD P ops C Q r a' w') [o] a w
/-- something waits for operation i -/
def awaited (md : Region.Mode) (ops : Array Oper) (i : Nat) : Bool := (List.range ops.size).any fun k => decide (k ≠ i) && (match ops[k]? with | some ok => ok.after.any fun e => Region.binds md e && decide (e.on = i) | none => false)
theorem awaited_spec {i : Nat} (h : awaited md ops i = true) : ∃ (k : Nat) (ok : Oper), ops[k]? = some ok ∧ k ≠ i ∧ ∃ e ∈ ok.after, Region.binds md e = true ∧ e.on = i := by
  unfold awaited at h
  obtain ⟨k, _, hk⟩ := List.any_eq_true.1 h
  simp only [Bool.and_eq_true, decide_eq_true_eq] at hk
  obtain ⟨hne, hk⟩ := hk
  cases ho : ops[k]? with
  | none => rw [ho] at hk; cases hk
  | some ok =>
    rw [ho] at hk
    obtain ⟨e, he, hb⟩ := Array.any_eq_true'.1 hk
    simp only [Bool.and_eq_true, decide_eq_true_eq] at hb
    exact ⟨k, ok, ho, hne, e, he, hb.1, hb.2⟩
def permD (md : Region.Mode) (ops : Array Oper) : List (Nat × Bool) → Array Bool → Bool
  | [], listed => listed.all id
  | (i, true) :: r, listed => (Region.ready md ops listed).contains i && Region.free md ops listed i && awaited md ops i && permD md ops r (listed.setIfInBounds i true)
  | (i, false) :: r, listed => decide (Region.ready md ops listed = [i]) && permD md ops r (listed.setIfInBounds i true)
theorem anyD_of_mix (hs : Region.noSelect ops = true) : ∀ (perm : List (Nat × Bool)) (listed : Array Bool) (a : Act) (w : World), DownB md ops listed → ops.size ≤ listed.size → permD md ops perm listed = true → mixD P ops C Q (pickP ops perm) a w → anyD P md ops C Q perm.length listed a w
  | [], listed, a, w, _, _, hB, h => ⟨fun j => by
      simp only [permD] at hB
      rcases Nat.lt_or_ge j listed.size with hj | hj
      · rw [Array.getD_eq_getD_getElem?, Array.getElem?_eq_getElem hj]
        have := Array.all_eq_true.1 hB j hj
        simpa using this
      · rw [Array.getD_eq_getD_getElem?, Array.getElem?_eq_none hj]
        rfl, h⟩
  | (i, true) :: r, listed, a, w, hdn, hsz, hB, h => by
    simp only [permD, Bool.and_eq_true] at hB
    obtain ⟨⟨⟨hr, hf⟩, haw⟩, hB'⟩ := hB
    have hr' : i ∈ Region.ready md ops listed := by simpa using hr
    obtain ⟨_, o, ho, _⟩ := mem_ready.1 hr'
    have e : pickP ops ((i, true) :: r) = (o, true) :: pickP ops r := by unfold pickP; simp [ho]
    rw [e] at h
    obtain ⟨A1, hv, hC, hm⟩ := h
    have hst : ∀ W, C W → ∃ v', YieldsAt P ops W o v' a ∧ a.put o.dst v' = A1 := fun W hW => by
      have h1 : stOp P ops W i (fun a' => a' = A1) a := by unfold stOp; simp only [ho]; exact hv ⟨W, hW⟩
      exact yieldsAt_of_stOp ho h1
    obtain ⟨v, _, rfl⟩ := hst w hC
    exact anyD_first ho (Region.noSelect_spec hs) (awaited_spec haw) r.length listed a w (Region.free_spec ho hf) hdn hsz hr' hC hst (anyD_of_mix hs r _ _ w (hdn.add hr') (by rw [Array.size_setIfInBounds]; exact hsz) hB' hm)
  | (i, false) :: r, listed, a, w, hdn, hsz, hB, h => by
    simp only [permD, Bool.and_eq_true, decide_eq_true_eq] at hB
    obtain ⟨hr, hB'⟩ := hB
    have hr' : i ∈ Region.ready md ops listed := by rw [hr]; simp
    obtain ⟨_, o, ho, _⟩ := mem_ready.1 hr'
    have e : pickP ops ((i, false) :: r) = (o, false) :: pickP ops r := by unfold pickP; simp [ho]
    rw [e] at h
    obtain ⟨hC, hw⟩ := h
    refine ⟨hC, by rw [hr]; simp, fun j hj => ?_⟩
    rw [hr] at hj
    obtain rfl : j = i := by simpa using hj
    have hgo : ∀ (a' : Act) (w' : World), mixD P ops C Q (pickP ops r) a' w' → anyD P md ops C Q r.length (listed.setIfInBounds j true) a' w' := fun a' w' hm => anyD_of_mix hs r _ a' w' (hdn.add hr') (by rw [Array.size_setIfInBounds]; exact hsz) hB' hm
    unfold wpOp
    simp only [ho]
    simp only [wpList] at hw
    split
    · rename_i hwt
      rw [if_pos hwt] at hw
      rcases hw with hw | hw
      · left
        unfold Oper.wp at *
        generalize (execOp a.eval o).run P w = res at *
        cases res with
        | ok n w' =>
          cases n <;> simp only [Oper.upon] at hw ⊢
          case value u => exact hgo _ _ hw
          case skip => exact hgo _ _ hw
          case defer d => exact hgo _ _ hw
          case enter f args => exact Calls.mono hw (fun e w'' he => by
            cases e
            · exact hgo _ _ he
            · exact he
            · exact absurd he OnlyN.out)
          case row row args => exact Rows.mono hw (fun v w'' he => hgo _ _ he)
        | halt x w' => cases x <;> simp only [Oper.upon] at hw ⊢ <;> exact hw
      · exact absurd hw.2 OnlyN.out
    · rename_i hwt
      rw [if_neg hwt] at hw
      exact hgo _ _ hw
end
theorem wp_region_mixD {P : Program} (C : World → Prop) (perm : List (Nat × Bool)) {id : Nat} {Q : Exit → Act → World → Prop} {a : Act} {w : World} {l : List Oper} (hm : P.follows .mixedOrders = true)
    (hB : (Region.noSelect l.toArray && decide (perm.length = l.length) && permD .any l.toArray perm (Array.replicate l.length false)) = true)
    (h : mixD P l.toArray C Q (pickP l.toArray perm) a w.drew) : (Code.region id l.toArray true).wp P Q a w := by
  simp only [Bool.and_eq_true, decide_eq_true_eq] at hB
  obtain ⟨⟨hs, hl⟩, hp⟩ := hB
  refine Code.wp_mono OnlyN.imp (wp_region_any hm (wpAny_of_anyD (C := C) _ _ _ _ ?_))
  have := anyD_of_mix (C := C) (Q := Q) hs perm (Array.replicate l.length false) a w.drew (fun k ok _ hl => by
    rw [Array.getD_eq_getD_getElem?] at hl
    rcases Nat.lt_or_ge k l.length with hk | hk
    · simp [hk] at hl
    · rw [Array.getElem?_eq_none (by simpa using hk)] at hl
      cases hl) (by simp) hp h
  rw [hl] at this
  simpa using this
theorem mixD_nil {P : Program} {ops : Array Oper} {C : World → Prop} {Q : Exit → Act → World → Prop} {a : Act} {w : World} (h : Q .normal a w) : mixD P ops C Q [] a w := h
theorem mixD_first {P : Program} {ops : Array Oper} {C : World → Prop} {Q : Exit → Act → World → Prop} {o : Oper} {r : List (Oper × Bool)} {a : Act} {w : World}
    (h : ∃ A1, (∀ m : Held C, wpQuiet P ops (fun w' => ∃ _ : Unit, w' = HeldW m) (fun a' => a' = A1) [o] a) ∧ C w ∧ mixD P ops C Q r A1 w) : mixD P ops C Q ((o, true) :: r) a w := by
  obtain ⟨A1, h1, h2, h3⟩ := h
  exact ⟨A1, fun m => still_of_quiet (h1 m), h2, h3⟩
theorem mixD_forced {P : Program} {ops : Array Oper} {C : World → Prop} {Q : Exit → Act → World → Prop} {o : Oper} {r : List (Oper × Bool)} {a : Act} {w : World} (hC : C w)
    (h : wpList P ops (OnlyN fun _ a' w' => mixD P ops C Q r a' w') [o] a w) : mixD P ops C Q ((o, false) :: r) a w := ⟨hC, h⟩
end Sw
/- The contract of archive.Write, at a Base that holds nothing that is held. -/
set_option linter.unusedVariables false
set_option linter.unusedSimpArgs false
namespace Go.Proofs.YtjcbjocgachpjaaGreatDoor
open Go Go.RowKit
open Sw
theorem textML_step (L : List MkE) (i : Nat) (h : i < L.length) : textML (L.take (i + 1)) = textML (L.take i) ++ (lineM L[i] ++ [10]) := by
  unfold textML
  rw [List.take_succ_eq_append_getElem h, List.flatMap_append]
  simp
theorem textML_le (L : List MkE) (i : Nat) : (textML (L.take i)).length ≤ (textML L).length := by
  have h : textML L = textML (L.take i) ++ ((L.drop i).flatMap fun m => lineM m ++ [10]) := by
    unfold textML
    conv => lhs; rw [← List.take_append_drop i L]
    rw [List.flatMap_append]
    simp
  rw [h, List.length_append]
  omega
theorem lineM_len {m : MkE} (h : OkT m) : (lineM m).length ≤ 262 := by
  have h1 := right_len h.1.1
  have h2 := textPL_len (print_two h.1.2.1 h.1.2.2).2
  unfold lineM
  simp only [List.length_cons, List.length_append]
  omega
theorem okT_size {m : MkE} (h : OkT m) : m.1.size ≤ 200 := by
  have h1 := right_len h.1.1
  have h2 : m.1.data.toList.length = m.1.size := by simp
  omega
theorem okT_in {m : MkE} (h : OkT m) : MkInA m := ⟨by have := okT_size h; omega, h.2.1.1, h.2.1.2⟩
theorem textML_max {L : List MkE} (hn : L.length ≤ 100) (hok : ∀ m ∈ L, OkT m) : (textML L).length ≤ 40000 := by
  have := textML_len (L := L) (fun m hm => ⟨okT_size (hok m hm), (print_two (hok m hm).1.2.1 (hok m hm).1.2.2).2⟩)
  omega
/-- what archive.Write answers -/
def writeV (L : List MkE) : Value := if rightM L [] = true then .tuple #[.string (mkB (textML L)), .int .i64 0] else .tuple #[.string ⟨#[]⟩, .int .i64 1]
set_option maxRecDepth 100000 in
set_option maxHeartbeats 8000000 in
theorem archWrite_any (w : World) (u1 u2 : Value) (L : List MkE) (h1 : SlV w 6 eCM u1 L) (h2 : SlV w 6 eCM u2 []) (hn : L.length ≤ 100) (hok : ∀ m ∈ L, OkT m) :
    Calls Tryz.prog 9 #[.agg #[u1, u2]] w fun e w' => e = .returned (writeV L) ∧ Below w.heap.size w w' := by
  have htl := textML_max hn hok
  obtain ⟨W, hW⟩ : ∃ W, w.alloc (.cells #[u1, u2] 32) = W := ⟨_, rfl⟩
  have hb0 : Below w.heap.size w W := by rw [← hW]; exact (Below.refl _ w).alloc (Nat.le_refl _) _
  have hB0 : Blk W w.heap.size 32 #[u1, u2] := by rw [← hW]; exact Blk.new _ _ _
  have HR := Lib.hid (archRight_any W u1 u2 L [] (h1.below hb0 (Nat.le_refl _)) (h2.below hb0 (Nat.le_refl _)) (by omega) (by simp) (fun m hm => okT_in (hok m hm)) (fun m hm => by cases hm))
  have x0 := hB0.cell 0
  have x1 := hB0.cell 1
  simp only [List.getElem?_toArray, List.getElem?_cons_succ, List.getElem?_cons_zero] at x0 x1
  have HB := Lib.hid (And.intro hb0 (And.intro hB0 (And.intro h1 h2)))
  have HW := Lib.hid hW
  have HOK := Lib.hid hok
  obtain ⟨A1, c1, rfl, _, _, _⟩ := h1
  obtain ⟨A2, c2, rfl, _, _, _⟩ := h2
  obtain ⟨n, hn1⟩ : ∃ n, L.length = n := ⟨_, rfl⟩
  rw [hn1] at HW HB HR x0 hn ⊢
  have HL := Lib.hid hn1
  simp only [List.length_nil] at HW HB HR x1 ⊢
  clear hb0 hB0 hW hok hn1
  go_enter Tryz.func9, Tryz.ntmps9
  go_upto_region 1 with fail
  rw [HW.out]
  go_wp2_with fail
  refine HR.out.mono ?_
  rintro e w1 ⟨rfl, hb1⟩
  have H1 := Lib.hid (And.intro (HB.out.1.trans (hb1.mono HB.out.1.size)) (HB.out.2.1.below hb1 HB.out.2.1.lt))
  clear hb1 HR x0 x1
  have hval : writeV L = if rightM L [] = true then .tuple #[.string (mkB (textML L)), .int .i64 0] else .tuple #[.string ⟨#[]⟩, .int .i64 1] := rfl
  cases hR : rightM L [] with
  | false =>
    rw [hR, if_neg (by decide)] at hval
    have HV := Lib.hid hval
    clear hR hval
    go_wp2_with fail
    go_ret2
    exact ⟨by rw [HV.out]; rfl, H1.out.1⟩
  | true =>
    rw [hR, if_pos rfl] at hval
    have HV := Lib.hid hval
    clear hR hval
    have hf0 := bld_fresh w1
    have hb2 : Below w1.heap.size w1 (w1.alloc (.cells #[.pointer none, .slice none 0 0] 65)) := (Below.refl _ w1).alloc (Nat.le_refl _) _
    obtain ⟨b, hb⟩ : ∃ b, w1.heap.size = b := ⟨_, rfl⟩
    obtain ⟨W2, hW2⟩ : ∃ W2, w1.alloc (.cells #[.pointer none, .slice none 0 0] 65) = W2 := ⟨_, rfl⟩
    rw [hb, hW2] at hf0 hb2
    have hsz2 : W2.heap.size = b + 1 := by rw [← hW2, ← hb]; simp
    have H2 := Lib.hid (And.intro hW2 (And.intro hf0 (And.intro hb2 (And.intro hb hsz2))))
    clear hW2 hf0 hb2 hsz2
    have hLN := archLine_any b b W2.heap.size 1 [] [⟨#[115, 119, 105, 110, 103, 108, 101, 32, 49]⟩] (W2.alloc (.cells #[.string ⟨#[115, 119, 105, 110, 103, 108, 101, 32, 49]⟩] 9)) (Bld.alloc H2.out.2.1 _) (by rw [World.size_alloc, H2.out.2.2.2.2]; omega) rfl (Blk.new _ _ _) (by omega) (by simp) (by simp [catT])
    have HLN := Lib.hid hLN; clear hLN
    go_upto_region 5 with fail
    rw [H2.out.1]
    go_wp2_with fail
    refine HLN.out.mono ?_
    rintro e w3 ⟨rfl, hB3, hb3⟩
    have e3 : ([] : List UInt8) ++ (catT [(⟨#[115, 119, 105, 110, 103, 108, 101, 32, 49]⟩ : ByteArray)] ++ [10]) = textML (L.take 0) := by simp [catT, textML, beginL]
    rw [e3] at hB3
    have hb13 : Below b w1 w3 := (H2.out.2.2.1.alloc (by rw [H2.out.2.2.2.2]; omega) _).trans hb3
    have H3 := Lib.hid (And.intro hB3 hb13)
    clear hB3 hb3 hb13 e3 HLN
    have hbw : w.heap.size < b := by rw [← H2.out.2.2.2.1]; exact H1.out.2.lt
    have hBa3 := H1.out.2.below H3.out.2 hbw
    have x0 := hBa3.cell 0
    simp only [List.getElem?_toArray, List.getElem?_cons_zero] at x0
    have HBW := Lib.hid hbw
    clear hBa3 hbw
    go_wp2_with fail
    go_loopw [7, 20] (fun _ iv wr => ∃ i : Nat, i ≤ n ∧ iv = .int .i64 i ∧ Bld b b (Lib.byteCells (textML (L.take i))) wr ∧ Below b w1 wr) (fun _ iv _ => n - (intOf iv).toNat)
    case atStart => exact ⟨0, Nat.zero_le _, rfl, H3.out.1, H3.out.2⟩
    case round =>
      obtain ⟨i, hi, rfl, hBr, hbr⟩ := hrel
      have HG := Lib.hid (And.intro hBr hbr); clear hBr hbr
      by_cases hlt : i < n
      · have hiL : i < L.length := by have := HL.out; omega
        have hslr := (HB.out.2.2.1.below (H1.out.1) (Nat.le_refl _)).below (B := b) HG.out.2 (by rw [← H2.out.2.2.2.1]; exact Nat.le_refl _)
        obtain ⟨A', c', hA, _, _, hso⟩ := hslr
        obtain ⟨rfl, rfl⟩ : A1 = A' ∧ c1 = c' := by injection hA with e1 e2 e3; exact ⟨e1, e3⟩
        clear hA
        obtain ⟨rb, off, rfl, hbb, hcs⟩ := hso (by omega)
        have c0 := hcs i hiL 0 (by omega)
        have c1' := hcs i hiL 1 (by omega)
        have c2' := hcs i hiL 2 (by omega)
        have c3' := hcs i hiL 3 (by omega)
        have c4' := hcs i hiL 4 (by omega)
        have c5' := hcs i hiL 5 (by omega)
        simp only [eCM, List.getElem?_cons_succ, List.getElem?_cons_zero, Nat.add_zero] at c0 c1' c2' c3' c4' c5'
        clear hcs hso hbb
        have hi1 : (i : Int) < n := by omega
        have hstep := textML_step L i hiL
        have hlen := textML_le L (i + 1)
        have hlm := lineM_len (HOK.out _ (List.getElem_mem hiL))
        have hlen0 := textML_le L i
        have hmt := fun V => markText_any V L[i] (HOK.out _ (List.getElem_mem hiL))
        have hcat : catT [⟨#[61]⟩, L[i].1, ⟨#[9]⟩, mkB (textPL L[i].2)] = lineM L[i] := by
          unfold lineM catT
          simp [mkB]
        obtain ⟨x, hx⟩ : ∃ x, L[i] = x := ⟨_, rfl⟩
        rw [hx] at c0 c1' c2' c3' c4' c5' hstep hlm hmt hcat
        clear hx
        obtain ⟨q, ⟨kd, md, tm, sz, sm⟩⟩ := x
        simp only at c0 c1' c2' c3' c4' c5' hcat
        unfold Pr.c at hmt
        simp only at hmt
        obtain ⟨W5, hW5⟩ : ∃ W5, wr.alloc (.cells #[.string q, .int .i64 kd, .int .i64 md, .int .u32 tm, .int .i64 sz, .int .u32 sm] 61) = W5 := ⟨_, rfl⟩
        have hba : Below wr.heap.size wr W5 := by rw [← hW5]; exact (Below.refl _ _).alloc (Nat.le_refl _) _
        have hB5 : Blk W5 wr.heap.size 61 #[.string q, .int .i64 kd, .int .i64 md, .int .u32 tm, .int .i64 sz, .int .u32 sm] := by rw [← hW5]; exact Blk.new _ _ _
        obtain ⟨G, hG⟩ : ∃ G, wr.heap.size = G := ⟨_, rfl⟩
        rw [hG] at hB5
        have hGl := hB5.lt
        obtain ⟨tx, htx⟩ : ∃ tx, mkB (textPL (⟨kd, md, tm, sz, sm⟩ : Pr)) = tx := ⟨_, rfl⟩
        rw [htx] at hmt hcat
        have HT := Lib.hid hmt
        have HBr5 := Lib.hid (Bld.below (B' := 0) HG.out.1 hba)
        have H5 := Lib.hid (And.intro hW5 (And.intro hba hG))
        have HC0 := Lib.hid (Aft.start W5)
        have hbgt : b ≤ W5.heap.size := Nat.le_trans (Nat.le_of_lt HG.out.1.lt) hba.size
        have HLN := Lib.hid (fun V g (hV : Bld b b (Lib.byteCells (textML (L.take i))) V) (hbV : b ≤ V.heap.size) (hg : Blk V g 9 #[.string ⟨#[61]⟩, .string q, .string ⟨#[9]⟩, .string tx]) => archLine_any b b g 4 (textML (L.take i)) [⟨#[61]⟩, q, ⟨#[9]⟩, tx] V hV hbV rfl hg (by omega) (by omega) (by rw [hcat]; omega))
        rw [hcat, ← hstep] at HLN
        have HBG := Lib.hid hbgt
        have k0 : ∀ m' : Held (Aft W5), (HeldW m').cell? ⟨G, 0, none⟩ = some (.string q) := fun m' => (Aft.cell m' hGl).trans (hB5.cell 0)
        have k1 : ∀ m' : Held (Aft W5), (HeldW m').cell? ⟨G, 1, none⟩ = some (.int .i64 kd) := fun m' => (Aft.cell m' hGl).trans (hB5.cell 1)
        have k2 : ∀ m' : Held (Aft W5), (HeldW m').cell? ⟨G, 2, none⟩ = some (.int .i64 md) := fun m' => (Aft.cell m' hGl).trans (hB5.cell 2)
        have k3 : ∀ m' : Held (Aft W5), (HeldW m').cell? ⟨G, 3, none⟩ = some (.int .u32 tm) := fun m' => (Aft.cell m' hGl).trans (hB5.cell 3)
        have k4 : ∀ m' : Held (Aft W5), (HeldW m').cell? ⟨G, 4, none⟩ = some (.int .i64 sz) := fun m' => (Aft.cell m' hGl).trans (hB5.cell 4)
        have k5 : ∀ m' : Held (Aft W5), (HeldW m').cell? ⟨G, 5, none⟩ = some (.int .u32 sm) := fun m' => (Aft.cell m' hGl).trans (hB5.cell 5)
        clear hW5 hba hB5 hGl htx hmt hcat hstep hlen hlm hlen0 hbgt
        go_upto_region 9 with fail
        rw [H5.out.1]
        clear c0 c1' c2' c3' c4' c5'
        refine wp_region_mixD (Aft W5) [(0, true), (1, true), (2, true), (3, true), (4, true), (5, false), (6, false), (7, false)] (by kernel_rfl) (by kernel_rfl) ?_
        simp only [pickP, List.filterMap_cons, List.filterMap_nil, List.getElem?_toArray, List.getElem?_cons_succ, List.getElem?_cons_zero, Option.map_some]
        repeat (apply mixD_first; apply Exists.intro; refine ⟨fun m => ?_, HC0.out, ?_⟩; · (go_big_quiet_step (fail); exact wpQuiet_nil rfl))
        refine mixD_forced HC0.out ?_
        go_wp2_with fail
        refine (HT.out W5.drew).mono ?_
        rintro e w6 ⟨rfl, hb6⟩
        have HC6 := Lib.hid (Aft.keep _ _ HC0.out hb6)
        have HB6 := Lib.hid (Bld.below (B' := 0) HBr5.out HC6.out)
        have hg6 : b ≤ w6.heap.size := Nat.le_trans HBG.out HC6.out.size
        have HG6 := Lib.hid hg6
        clear hb6 hg6 HT
        go_wp2_with fail
        show mixD _ _ _ _ _ _ _
        refine mixD_forced HC6.out ?_
        go_wp2_with fail
        show mixD _ _ _ _ _ _ _
        refine mixD_forced (Aft.keep _ _ HC6.out ((Below.refl _ w6).alloc (Nat.le_refl _) _)) ?_
        go_wp2_with fail
        refine (HLN.out _ _ (Bld.alloc HB6.out _) (by have := HG6.out; simp; omega) (Blk.new w6 _ _)).mono ?_
        rintro e w7 ⟨rfl, hB7, hb7⟩
        have hfin : Below b w1 w7 := (HG.out.2.trans ((H5.out.2.1.trans (HC6.out.mono H5.out.2.1.size)).mono (Nat.le_of_lt HG.out.1.lt))).trans ((((Below.refl _ w6).alloc (Nat.le_refl _) _).mono HG6.out).trans hb7)
        have H7 := Lib.hid (And.intro hB7 hfin)
        clear hB7 hb7 hfin k0 k1 k2 k3 k4 k5
        go_wp2_with fail
        show mixD _ _ _ _ _ _ _
        refine mixD_nil ?_
        go_wp2_with fail
        go_roundw
        case rel => exact ⟨i + 1, by omega, by go_num, H7.out.1, H7.out.2⟩
        case measure => simp [intOf]; omega
      · obtain rfl : i = n := by omega
        rw [List.take_of_length_le (by have := HL.out; omega)] at HG
        have hBa := H1.out.2.below HG.out.2 HBW.out
        have x1 := hBa.cell 1
        simp only [List.getElem?_toArray, List.getElem?_cons_succ, List.getElem?_cons_zero] at x1
        clear hBa
        go_wp2_with fail
        go_loopw [9, 36] (fun _ iv wq => iv = .int .i64 0 ∧ wq = wr) (fun _ _ _ => 0)
        case atStart => exact ⟨rfl, rfl⟩
        case round =>
          obtain ⟨rfl, rfl⟩ := hrel
          have hlc := bldLen_any b b (textML L) wr HG.out.1 (by omega)
          have hst := bldString_any b b (textML L) wr HG.out.1 (Nat.le_of_lt HG.out.1.lt)
          have HLC := Lib.hid hlc
          have HST := Lib.hid hst
          clear hlc hst
          obtain ⟨N, hN⟩ : ∃ N, (textML L).length = N := ⟨_, rfl⟩
          rw [hN] at HLC htl
          have hN2 : ¬ (65000 : Int) < N := by omega
          clear hN
          go_wp2_with fail
          refine HLC.out.mono ?_
          rintro e w8 ⟨rfl, rfl⟩
          go_wp2_with fail
          refine HST.out.mono ?_
          rintro e w9 ⟨rfl, -, hb9, -⟩
          have H9 := Lib.hid (H1.out.1.trans ((HG.out.2.trans hb9).mono (Nat.le_of_lt HBW.out)))
          clear hb9
          go_wp2_with fail
          go_ret2
          exact ⟨by rw [HV.out]; rfl, H9.out⟩
end Go.Proofs.YtjcbjocgachpjaaGreatDoor
/- Contracts of strings.Lines, and of its iterator. -/
set_option linter.unusedVariables false
set_option linter.unusedSimpArgs false
namespace Sw
open Go Go.RowKit
/-- the lines of a text -/
def lnS (s : ByteArray) : List ByteArray := (linesL s.data.toList).map mkB
theorem lnS_hit {X : ByteArray} {i : Nat} (h : Lib.indexByte X.data.toList 10 = i) : i < X.size ∧ lnS X = X.extract 0 (i + 1) :: lnS (X.extract (i + 1) X.size) := by
  obtain ⟨h1, h2, h3⟩ := byte_split h
  have hs : X.data.toList.length = X.size := by simp
  refine ⟨by omega, ?_⟩
  unfold lnS
  have he : X.data.toList[i] = 10 := by
    obtain ⟨h4, _⟩ := Lib.indexByte_some h
    exact (List.getElem?_eq_some_iff.1 h4).2
  rw [ext_drop, ← mkB_data (X.extract 0 (i + 1)), ext_take, List.take_succ_eq_append_getElem h1, he]
  conv => lhs; rw [h2]
  rw [lines_cons _ _ h3]
  rfl
theorem lnS_miss {X : ByteArray} (h : Lib.indexByte X.data.toList 10 = -1) (h0 : 0 < X.size) : lnS X = [X] := by
  unfold lnS
  rw [lines_last _ (byte_none h) (fun e => by
    have : X.data.toList.length = X.size := by simp
    rw [e] at this
    simp at this
    omega), List.map_singleton, mkB_data]
theorem lnS_nil {X : ByteArray} (h : X.size = 0) : lnS X = [] := by
  unfold lnS
  have : X.data.toList = [] := List.eq_nil_of_length_eq_zero (by simpa using h)
  rw [this]
  rfl
/-- one block lies as it lay -/
structure Kp1 (a : Nat) (W W' : World) : Prop where
  size : W.heap.size ≤ W'.heap.size
  block : W'.heap[a]? = W.heap[a]?
theorem Kp1.trans {a : Nat} {A B C : World} (h : Kp1 a A B) (k : Kp1 a B C) : Kp1 a A C := ⟨Nat.le_trans h.size k.size, k.block.trans h.block⟩
theorem Kp1.turn {a : Nat} {w : World} (ha : a < w.heap.size) (W : World) (l : Nat) (o o' : Obj) (hl : w.heap.size ≤ l) : Kp1 a W (W.putObj l o') :=
  ⟨by simp, World.putObj_heap_other (by omega)⟩
end Sw
/- Contracts of strings.Lines, and of its iterator. -/
set_option linter.unusedVariables false
set_option linter.unusedSimpArgs false
namespace Go.Proofs.YtjcbjocgachpjaaGreatDoor
open Go Go.RowKit Go.Shelf
open Sw
attribute [local go_sem] Oper.semAt_some
set_option maxRecDepth 100000 in
theorem lines_any (w : World) (s : ByteArray) :
    Calls Tryz.prog 27 #[.string s] w fun e w' => e = .returned (.func (.func 56) #[] #[.pointer (some ⟨w.heap.size, 0, none⟩)]) ∧ w' = w.alloc (.cells #[.string s] 9) := by
  go_enter Tryz.func27, Tryz.ntmps27
  go_wp2_with fail
  go_ret
  exact ⟨rfl, rfl⟩
set_option maxRecDepth 100000 in
set_option maxHeartbeats 4000000 in
theorem lines_tells (n : Nat) (hn : 2 ≤ n) (bs : Nat) (s : ByteArray) (w : World) (hsz : s.size ≤ 1000000) (hs : Blk w bs 9 #[.string s]) :
    SeqTells (fun k => k = bs) Fence.wide n Tryz.prog 56 #[.pointer (some ⟨bs, 0, none⟩)] (fun x : ByteArray => #[.string x]) (Kp1 bs) (fun xs => xs = lnS s) (fun pre => pre <+: lnS s) (fun pre => pre <+: lnS s) w := fun l J Jx W hW hJ hJx hY hJ0 => by
  have hSW := hs.below hW hs.lt
  have HI := Lib.hid (fun (X : ByteArray) (V : World) => Tryz.strings_IndexByte X 10 V)
  have HY := Lib.hid hY; clear hY
  have HJ := Lib.hid hJ; clear hJ hJx
  refine callsIn_of_wp Tryz.func56 rfl trivial ?_ rfl
  simp only [Tryz.ntmps56, List.size_toArray, List.length_cons, List.length_nil, Nat.reduceAdd, Nat.reduceSub, Array.replicate_succ, Array.replicate_zero, List.push_toArray, List.append_toArray, List.nil_append, List.cons_append]
  refine wpIn_wide.2 ?_
  go_wp2_with fail
  go_loopw [3, 4] (fun _ _ wr => ∃ (X : ByteArray) (pre : List ByteArray), X.size ≤ s.size ∧ Blk wr bs 9 #[.string X] ∧ pre ++ lnS X = lnS s ∧ J pre wr) (fun _ _ wr => strSz ((wr.cell? ⟨bs, 0, none⟩).getD undef))
  case atStart => exact ⟨s, [], Nat.le_refl _, hSW, rfl, hJ0⟩
  case round =>
    obtain ⟨X, pre, hX, hS, hpre, hJs⟩ := hrel
    have r2 := hS.cell 0
    have r4 := hS.frozen 0
    simp only [List.getElem?_toArray, List.getElem?_cons_zero] at r2
    by_cases hz : X.size = 0
    · have HF := Lib.hid (show pre = lnS s by rw [← hpre, lnS_nil hz, List.append_nil])
      have hz1 : (X.size : Int) = 0 := by omega
      have hz2 : ¬ (0 : Int) < X.size := by omega
      go_wp2_with fail
      go_end0
      exact ⟨⟨_, rfl⟩, .inl (by rw [← HF.out]; exact hJs)⟩
    · have hz1 : (0 : Int) < X.size := by omega
      have hix := HI.out X wr
      have hge := Lib.indexByte_ge X.data.toList 10
      obtain ⟨j, hj⟩ : ∃ j, Lib.indexByte X.data.toList 10 = j := ⟨_, rfl⟩
      have e10 : ((10 : Int).toNat.toUInt8) = 10 := rfl
      rw [e10, hj] at hix
      rw [hj] at hge
      have HIX := Lib.hid hix; clear hix
      by_cases h0 : j < 0
      · obtain rfl : j = -1 := by omega
        have hmiss := lnS_miss hj (by omega)
        rw [hmiss] at hpre
        have hP := hS.put 0 (.string ⟨#[]⟩)
        have hJ1 := HJ.out pre wr (wr.setCell ⟨bs, 0, none⟩ (.string ⟨#[]⟩)) (some bs) hJs (grown_put (grown_refl _ _) 0 _) (fun r e => .inl (by cases e; rfl))
        obtain ⟨fn, tmps, assign, body, hy, hR⟩ := HY.out pre X _ hJ1 ⟨[], by rw [List.append_nil]; exact hpre⟩
        have HP := Lib.hid (And.intro hpre (And.intro hP (show 0 < X.size by omega))); clear hpre hP hmiss hJs
        go_wp2_with fail
        refine HIX.out.mono ?_
        rintro e W1 ⟨rfl, rfl⟩
        go_upto_region 6 with fail
        refine (wpIn_wide (n := n)).1 ?_
        gi_wp2
        refine ⟨fun _ => by omega, hR.mono ?_⟩
        rintro e W3 (⟨rfl, hJ3, hk3⟩ | ⟨rfl, hJx3⟩)
        · have hS3 : Blk W3 bs 9 #[.string ⟨#[]⟩] := hk3.block.trans HP.out.2.1
          have HZ := Lib.hid (And.intro hJ3 hS3); clear hJ3 hk3 hS3
          gi_wp2
          go_wp2_with fail
          go_roundw
          case rel => exact ⟨⟨#[]⟩, pre ++ [X], Nat.zero_le _, HZ.out.2, by rw [show lnS ⟨#[]⟩ = [] from lnS_nil rfl, List.append_nil]; exact HP.out.1, HZ.out.1⟩
          case measure =>
            have e1 := HZ.out.2.cell 0
            have e2 := hS.cell 0
            simp only [List.getElem?_toArray, List.getElem?_cons_zero] at e1 e2
            rw [e1, e2]
            exact HP.out.2.2
        · gi_wp2
          go_wp2_with fail
          refine bodyPost_ret (results_none rfl _ _ _) rfl ?_
          exact ⟨⟨_, rfl⟩, .inr ⟨_, ⟨[], by rw [List.append_nil]; exact HP.out.1⟩, hJx3⟩⟩
      · obtain ⟨i, rfl⟩ := Int.eq_ofNat_of_zero_le (show 0 ≤ j by omega)
        obtain ⟨hiX, hhit⟩ := lnS_hit hj
        rw [hhit] at hpre
        have hz3 : (X.extract (i + 1) X.size).size < X.size := by rw [ByteArray.size_extract]; omega
        have hP : Blk (wr.setCell ⟨bs, 0, none⟩ (.string (X.extract (i + 1) X.size))).drew bs 9 #[.string (X.extract (i + 1) X.size)] := (hS.put 0 (.string (X.extract (i + 1) X.size))).drew
        have hJ1 := HJ.out pre wr (wr.setCell ⟨bs, 0, none⟩ (.string (X.extract (i + 1) X.size))).drew (some bs) hJs (grown_drew (grown_put (grown_refl _ _) 0 (.string (X.extract (i + 1) X.size)))) (fun r e => .inl (by cases e; rfl))
        obtain ⟨fn, tmps, assign, body, hy, hR⟩ := HY.out pre (X.extract 0 (i + 1)) _ hJ1 ⟨lnS (X.extract (i + 1) X.size), by rw [List.append_assoc]; exact hpre⟩
        have HP := Lib.hid (And.intro hpre (And.intro hP hz3)); clear hpre hP hz3 hJs hhit
        have hi1 : (i : Int) + 1 ≤ X.size := by omega
        go_wp2_with fail
        refine HIX.out.mono ?_
        rintro e W1 ⟨rfl, rfl⟩
        go_upto_region 4 with fail
        go_region
        go_upto_region 6 with fail
        refine (wpIn_wide (n := n)).1 ?_
        gi_wp2
        refine ⟨fun _ => by omega, hR.mono ?_⟩
        rintro e W3 (⟨rfl, hJ3, hk3⟩ | ⟨rfl, hJx3⟩)
        · have hS3 : Blk W3 bs 9 #[.string (X.extract (i + 1) X.size)] := hk3.block.trans HP.out.2.1
          have HZ := Lib.hid (And.intro hJ3 hS3); clear hJ3 hk3 hS3
          gi_wp2
          go_wp2_with fail
          go_roundw
          case rel => exact ⟨X.extract (i + 1) X.size, pre ++ [X.extract 0 (i + 1)], Nat.le_of_lt (Nat.lt_of_lt_of_le HP.out.2.2 hX), HZ.out.2, by rw [List.append_assoc]; exact HP.out.1, HZ.out.1⟩
          case measure =>
            have e1 := HZ.out.2.cell 0
            have e2 := hS.cell 0
            simp only [List.getElem?_toArray, List.getElem?_cons_zero] at e1 e2
            rw [e1, e2]
            exact HP.out.2.2
        · gi_wp2
          go_wp2_with fail
          refine bodyPost_ret (results_none rfl _ _ _) rfl ?_
          exact ⟨⟨_, rfl⟩, .inr ⟨_, ⟨lnS (X.extract (i + 1) X.size), by rw [List.append_assoc]; exact HP.out.1⟩, hJx3⟩⟩
end Go.Proofs.YtjcbjocgachpjaaGreatDoor
