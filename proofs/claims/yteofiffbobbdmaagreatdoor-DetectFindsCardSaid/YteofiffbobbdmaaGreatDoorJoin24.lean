/- Several texts, joined for the limit of sixty files; each one opens with its own comment. -/
import Derived.Test.YteofiffbobbdmaaGreatDoorJoin5
import Derived.StillTail
import Derived.StillTactics
import Derived.Test.YteofiffbobbdmaaGreatDoorJoin20
import Derived.Test.YteofiffbobbdmaaGreatDoorJoin23
import Derived.Test.YteofiffbobbdmaaGreatDoorJoin17
import Derived.Test.YteofiffbobbdmaaGreatDoorJoin2
import Derived.Test.YteofiffbobbdmaaGreatDoorRows
/- A region that draws its order, walked in an order of one's own: an operation that yields the same in all worlds of a class may go first; any other one must be the only one that is ready. Over any program. -/
set_option linter.unusedVariables false
set_option linter.unusedSimpArgs false
namespace Sw
open Go
/-- Q where the region goes on, else nothing -/
def OnlyN (Q : Exit → Act → World → Prop) : Exit → Act → World → Prop
  | .normal, a, w => Q .normal a w
  | _, _, _ => False
theorem OnlyN.imp {Q : Exit → Act → World → Prop} : ∀ (e : Exit) (a : Act) (w : World), OnlyN Q e a w → Q e a w := fun e a w h => by
  cases e <;> first | exact h | exact (h : False).elim
theorem OnlyN.out {Q : Exit → Act → World → Prop} : ¬ LetsOut (OnlyN Q) := fun ⟨_, _, h⟩ => h
section
variable {P : Program} {ops : Array Oper} {md : Region.Mode} {Q : Exit → Act → World → Prop} {C : World → Prop}
def anyC (P : Program) (md : Region.Mode) (ops : Array Oper) (C : World → Prop) (Q : Exit → Act → World → Prop) : Nat → Array Bool → Act → World → Prop
  | 0, listed, a, w => C w ∧ Region.ready md ops listed = [] ∧ Q .normal a w
  | f + 1, listed, a, w => C w ∧ Region.ready md ops listed ≠ [] ∧ ∀ i ∈ Region.ready md ops listed, wpOp P ops (OnlyN Q) i (anyC P md ops C Q f (listed.setIfInBounds i true)) a w
theorem anyC_C : ∀ {f : Nat} {listed : Array Bool} {a : Act} {w : World}, anyC P md ops C Q f listed a w → C w
  | 0, _, _, _, h => h.1
  | _ + 1, _, _, _, h => h.1
theorem wpAny_of_anyC : ∀ (f : Nat) (listed : Array Bool) (a : Act) (w : World), anyC P md ops C Q f listed a w → wpAny P md ops (OnlyN Q) f listed a w
  | 0, _, _, _, h => h.2
  | f + 1, listed, a, w, h => ⟨fun h0 => absurd h0 h.2.1, fun i hi => wpOp_mono (fun a w => wpAny_of_anyC f _ a w) (h.2.2 i hi)⟩
theorem upon_put {oj : Oper} {K K' : Act → World → Prop} {a b : Act} (hK : ∀ ds u w', K (({ b with defers := ds ++ b.defers } : Act).put oj.dst u) w' → K' (({ a with defers := ds ++ a.defers } : Act).put oj.dst u) w') : ∀ r : Result Next, oj.upon P b K (OnlyN Q) r → oj.upon P a K' (OnlyN Q) r := fun r h => by
  have h0 : ∀ u w', K (b.put oj.dst u) w' → K' (a.put oj.dst u) w' := fun u w' => hK [] u w'
  cases r with
  | ok n w' =>
    cases n <;> simp only [Oper.upon] at h ⊢
    case value u => exact h0 u w' h
    case skip => exact h0 _ w' h
    case defer d => exact hK [d] _ w' h
    case enter f args => exact Calls.mono h (fun e w'' he => by cases e <;> first | exact h0 _ _ he | exact he)
    case row row args => exact Rows.mono h (fun v w'' he => h0 _ _ he)
  | halt x w' => cases x <;> simp only [Oper.upon] at h ⊢ <;> exact h
theorem wpOp_put {j : Nat} {oi oj : Oper} {v : Value} {a : Act} {w : World} (hj : ops[j]? = some oj) (hap : oi.apart ops oj = true) (hsj : ∀ cs b, oj.op ≠ .select cs b)
    {K K' : Act → World → Prop} (hK : ∀ ds u w', K ((({ a with defers := ds ++ a.defers } : Act).put oj.dst u).put oi.dst v) w' → K' (({ a with defers := ds ++ a.defers } : Act).put oj.dst u) w')
    (h : wpOp P ops (OnlyN Q) j K (a.put oi.dst v) w) : wpOp P ops (OnlyN Q) j K' a w := by
  obtain ⟨h1, h2, h3⟩ := Oper.apart_spec hap
  unfold wpOp at *
  simp only [hj] at *
  rw [wanted_put oj a oi.dst v h1] at h
  have hpd : ∀ (ds : List Deferred) (b : Act) (x : Option Tmp) (u : Value), ({ b.put x u with defers := ds } : Act) = ({ b with defers := ds } : Act).put x u := fun ds b x u => by cases x <;> rfl
  have hdd : ∀ (b : Act) (x : Option Tmp) (u : Value), (b.put x u).defers = b.defers := fun b x u => by cases x <;> rfl
  split
  · rename_i hw
    rw [if_pos hw] at h
    rcases h with h | h
    · left
      unfold Oper.wp at *
      rw [execOp_put oj hsj a oi.dst v h1] at h
      refine upon_put (fun ds u w' hk => hK ds u w' ?_) _ h
      rw [hpd, hdd] at hk
      rw [Act.put_comm _ v u h2] at hk
      exact hk
    · exact absurd h.2 OnlyN.out
  · rename_i hw
    rw [if_neg hw] at h
    refine hK [] undef w ?_
    rw [← Act.put_comm _ v undef h2]
    exact h
theorem anyC_first {i : Nat} {oi : Oper} {v : Value} (hi : ops[i]? = some oi) (hsel : ∀ (j : Nat) (o : Oper) cs b, ops[j]? = some o → o.op ≠ .select cs b) :
    ∀ (f : Nat) (listed : Array Bool) (a : Act) (w : World),
      (∀ j oj, ops[j]? = some oj → j ≠ i → listed.getD j true = false → (∀ e ∈ oj.after, Region.binds md e = true → e.on ≠ i) → oi.apart ops oj = true) →
      i ∈ Region.ready md ops listed → C w → (∀ W, C W → ∃ v', YieldsAt P ops W oi v' a ∧ a.put oi.dst v' = a.put oi.dst v) →
      anyC P md ops C Q f (listed.setIfInBounds i true) (a.put oi.dst v) w → anyC P md ops C Q (f + 1) listed a w := by
  intro f
  induction f with
  | zero =>
    intro listed a w _ hr hC hy H
    refine ⟨hC, fun h => (by rw [h] at hr; cases hr), fun j hj => ?_⟩
    by_cases hji : j = i
    · subst hji
      obtain ⟨v', hy1, hy2⟩ := hy w hC
      exact wpOp_of_stOp (fun a' h' => h') (hy1.stOp (K := fun a' => anyC P md ops C Q 0 (listed.setIfInBounds j true) a' w) hi (by rw [hy2]; exact H))
    · have := ready_mono hj hji
      rw [H.2.1] at this
      cases this
  | succ f ih =>
    intro listed a w hfree hr hC hy H
    have hun := (mem_ready.1 hr).1
    refine ⟨hC, fun h => (by rw [h] at hr; cases hr), fun j hj => ?_⟩
    by_cases hji : j = i
    · subst hji
      obtain ⟨v', hy1, hy2⟩ := hy w hC
      exact wpOp_of_stOp (fun a' h' => h') (hy1.stOp (K := fun a' => anyC P md ops C Q (f + 1) (listed.setIfInBounds j true) a' w) hi (by rw [hy2]; exact H))
    · have h1 := H.2.2 j (ready_mono hj hji)
      obtain ⟨hjun, oj, hoj, hall⟩ := mem_ready.1 hj
      have hnot : ∀ e ∈ oj.after, Region.binds md e = true → e.on ≠ i := fun e he hb heq => by
        have h1 := hall e he hb
        rw [heq, getD_both hun] at h1
        cases h1
      have hap := hfree j oj hoj hji hjun hnot
      have hap3 := (Oper.apart_spec hap)
      refine wpOp_put hoj hap (fun cs b => hsel j oj cs b hoj) (fun ds u w' hk => ?_) h1
      refine ih (listed.setIfInBounds j true) _ w' (fun k ok hk' hki hunk hno => hfree k ok hk' hki (by
        by_cases hjk : j = k
        · subst hjk; exact hjun
        · rw [getD_set_ne true hjk] at hunk; exact hunk) hno) (ready_mono hr (Ne.symm hji)) (anyC_C hk) (fun W hW => ?_) (by rw [Array.setIfInBounds_comm _ _ hji]; exact hk)
      obtain ⟨v', hy1, hy2⟩ := hy W hW
      refine ⟨v', hy1.of_same ?_ ?_, ?_⟩
      · exact execOp_put oi (fun cs b => hsel i oi cs b hi) ({ a with defers := ds ++ a.defers } : Act) oj.dst u hap3.2.2
      · exact wanted_put oi ({ a with defers := ds ++ a.defers } : Act) oj.dst u hap3.2.2
      · have hb : ∀ x, ({ a with defers := ds ++ a.defers } : Act).put oi.dst x = { a.put oi.dst x with defers := ds ++ a.defers } := fun x => by cases oi.dst <;> rfl
        rw [← Act.put_comm _ v' u hap3.2.1, ← Act.put_comm _ v u hap3.2.1, hb, hb, hy2]
/-- the walk in an order of one's own: 'true': yields the same in the class; 'false': forced -/
def mixC (P : Program) (ops : Array Oper) (C : World → Prop) (Q : Exit → Act → World → Prop) : List (Oper × Bool) → Act → World → Prop
  | [], a, w => C w ∧ Q .normal a w
  | (o, true) :: r, a, w => ∃ A1, (∀ m : Held C, wpStill P ops (HeldW m) (fun a' => a' = A1) [o] a) ∧ C w ∧ mixC P ops C Q r A1 w
  | (o, false) :: r, a, w => C w ∧ wpList P ops (OnlyN fun _ a' w' => mixC P ops C Q r a' w') [o] a w
def permB (md : Region.Mode) (ops : Array Oper) : List (Nat × Bool) → Array Bool → Bool
  | [], listed => (Region.ready md ops listed).isEmpty
  | (i, true) :: r, listed => (Region.ready md ops listed).contains i && Region.free md ops listed i && permB md ops r (listed.setIfInBounds i true)
  | (i, false) :: r, listed => decide (Region.ready md ops listed = [i]) && permB md ops r (listed.setIfInBounds i true)
def pickP (ops : Array Oper) (perm : List (Nat × Bool)) : List (Oper × Bool) := perm.filterMap fun p => (ops[p.1]?).map fun o => (o, p.2)
theorem anyC_of_mix (hs : Region.noSelect ops = true) : ∀ (perm : List (Nat × Bool)) (listed : Array Bool) (a : Act) (w : World), permB md ops perm listed = true → mixC P ops C Q (pickP ops perm) a w → anyC P md ops C Q perm.length listed a w
  | [], listed, a, w, hB, h => ⟨h.1, by simpa [permB] using hB, h.2⟩
  | (i, true) :: r, listed, a, w, hB, h => by
    simp only [permB, Bool.and_eq_true] at hB
    obtain ⟨⟨hr, hf⟩, hB'⟩ := hB
    have hr' : i ∈ Region.ready md ops listed := by simpa using hr
    obtain ⟨_, o, ho, _⟩ := mem_ready.1 hr'
    have e : pickP ops ((i, true) :: r) = (o, true) :: pickP ops r := by unfold pickP; simp [ho]
    rw [e] at h
    obtain ⟨A1, hv, hC, hm⟩ := h
    have hst : ∀ W, C W → ∃ v', YieldsAt P ops W o v' a ∧ a.put o.dst v' = A1 := fun W hW => by
      have h1 : stOp P ops W i (fun a' => a' = A1) a := by unfold stOp; simp only [ho]; exact hv ⟨W, hW⟩
      exact yieldsAt_of_stOp ho h1
    obtain ⟨v, _, rfl⟩ := hst w hC
    exact anyC_first ho (Region.noSelect_spec hs) r.length listed a w (Region.free_spec ho hf) hr' hC hst (anyC_of_mix hs r _ _ w hB' hm)
  | (i, false) :: r, listed, a, w, hB, h => by
    simp only [permB, Bool.and_eq_true, decide_eq_true_eq] at hB
    obtain ⟨hr, hB'⟩ := hB
    have hr' : i ∈ Region.ready md ops listed := by rw [hr]; simp
    obtain ⟨_, o, ho, _⟩ := mem_ready.1 hr'
    have e : pickP ops ((i, false) :: r) = (o, false) :: pickP ops r := by unfold pickP; simp [ho]
    rw [e] at h
    obtain ⟨hC, hw⟩ := h
    refine ⟨hC, by rw [hr]; simp, fun j hj => ?_⟩
    rw [hr] at hj
    obtain rfl : j = i := by simpa using hj
    have hgo : ∀ (a' : Act) (w' : World), mixC P ops C Q (pickP ops r) a' w' → anyC P md ops C Q r.length (listed.setIfInBounds j true) a' w' := fun a' w' hm => anyC_of_mix hs r _ a' w' hB' hm
    unfold wpOp
    simp only [ho]
    simp only [wpList] at hw
    split
    · rename_i hwt
      rw [if_pos hwt] at hw
      rcases hw with hw | hw
      · left
        unfold Oper.wp at *
        generalize (execOp a.eval o).run P w = res at *
        cases res with
        | ok n w' =>
          cases n <;> simp only [Oper.upon] at hw ⊢
          case value u => exact hgo _ _ hw
          case skip => exact hgo _ _ hw
          case defer d => exact hgo _ _ hw
          case enter f args => exact Calls.mono hw (fun e w'' he => by
            cases e
            · exact hgo _ _ he
            · exact he
            · exact absurd he OnlyN.out)
          case row row args => exact Rows.mono hw (fun v w'' he => hgo _ _ he)
        | halt x w' => cases x <;> simp only [Oper.upon] at hw ⊢ <;> exact hw
      · exact absurd hw.2 OnlyN.out
    · rename_i hwt
      rw [if_neg hwt] at hw
      exact hgo _ _ hw
end
theorem wp_region_mix {P : Program} (C : World → Prop) (perm : List (Nat × Bool)) {id : Nat} {Q : Exit → Act → World → Prop} {a : Act} {w : World} {l : List Oper} (hm : P.follows .mixedOrders = true)
    (hB : (Region.noSelect l.toArray && decide (perm.length = l.length) && permB .any l.toArray perm (Array.replicate l.length false)) = true)
    (h : mixC P l.toArray C Q (pickP l.toArray perm) a w.drew) : (Code.region id l.toArray true).wp P Q a w := by
  simp only [Bool.and_eq_true, decide_eq_true_eq] at hB
  obtain ⟨⟨hs, hl⟩, hp⟩ := hB
  refine Code.wp_mono OnlyN.imp (wp_region_any hm (wpAny_of_anyC (C := C) _ _ _ _ ?_))
  have := anyC_of_mix (C := C) (Q := Q) hs perm (Array.replicate l.length false) a w.drew hp h
  rw [hl] at this
  simpa using this
theorem mix_nil {P : Program} {ops : Array Oper} {C : World → Prop} {Q : Exit → Act → World → Prop} {a : Act} {w : World} (hC : C w) (h : Q .normal a w) : mixC P ops C Q [] a w := ⟨hC, h⟩
theorem still_of_quiet {P : Program} {ops : Array Oper} {o : Oper} {a A1 : Act} {W : World} (h : wpQuiet P ops (fun w' => ∃ _ : Unit, w' = W) (fun a' => a' = A1) [o] a) : wpStill P ops W (fun a' => a' = A1) [o] a := by
  simp only [wpQuiet, wpStill] at *
  split
  · rename_i hw
    rw [if_pos hw] at h
    obtain ⟨v, h1, h2⟩ := h
    have h3 := h1 W ⟨(), rfl⟩
    unfold Oper.quietAt at h3
    unfold Oper.still
    generalize (execOp a.eval o).run P W = r at *
    cases r with
    | ok n w' =>
      cases n <;> simp only [Oper.quietUpon] at h3 <;> simp only [Oper.stillUpon]
      case value u => exact ⟨h3.1, by rw [h3.2]; exact h2⟩
      case skip => exact ⟨h3.1, by rw [← h3.2]; exact h2⟩
      case enter f args => exact ⟨h3.1, v, h3.2.mono fun e w'' he => ⟨he.1, by obtain ⟨_, h⟩ := he.2; exact h⟩, h2⟩
    | halt x w' => simp only [Oper.quietUpon] at h3
  · rename_i hw
    rw [if_neg hw] at h
    exact h
theorem mix_first {P : Program} {ops : Array Oper} {C : World → Prop} {Q : Exit → Act → World → Prop} {o : Oper} {r : List (Oper × Bool)} {a : Act} {w : World}
    (h : ∃ A1, (∀ m : Held C, wpQuiet P ops (fun w' => ∃ _ : Unit, w' = HeldW m) (fun a' => a' = A1) [o] a) ∧ C w ∧ mixC P ops C Q r A1 w) : mixC P ops C Q ((o, true) :: r) a w := by
  obtain ⟨A1, h1, h2, h3⟩ := h
  exact ⟨A1, fun m => still_of_quiet (h1 m), h2, h3⟩
theorem mix_forced {P : Program} {ops : Array Oper} {C : World → Prop} {Q : Exit → Act → World → Prop} {o : Oper} {r : List (Oper × Bool)} {a : Act} {w : World} (hC : C w)
    (h : wpList P ops (OnlyN fun _ a' w' => mixC P ops C Q r a' w') [o] a w) : mixC P ops C Q ((o, false) :: r) a w := ⟨hC, h⟩
end Sw
/- Law 26's Light, and law 29's, of any Base. -/
set_option linter.unusedVariables false
set_option linter.unusedSimpArgs false
namespace Go.Proofs.YteofiffbobbdmaaGreatDoor
open Go Go.RowKit
open Sw
theorem own_emptyB (w : World) (base : Nat) (e : TypeId) (size : Nat) (hb : base ≤ w.heap.size) : (w.alloc (.cells #[] e)).ownsRow base e size (.slice (some ⟨w.heap.size, 0, none⟩) 0 0) 0 [] :=
  own_mk hb (Blk.new w e #[]) (Nat.le_refl _) (by simp [maxLen]) (by simp) (by simp)
/-- what Light answers of a Base -/
def LightAns (l1 l2 : List MkE) (e : Ending) : Prop := ∃ R : Bool, e = .returned (.bool R) ∧ (R = true → l1.length ≤ 30 ∧ l2.length ≤ 30 ∧ ∀ m ∈ l1 ++ l2, m.1.size ≤ 150)
theorem LightAns.no {l1 l2 : List MkE} : LightAns l1 l2 (.returned (.bool false)) := ⟨false, rfl, fun h => (by cases h)⟩
theorem LightAns.yes {l1 l2 : List MkE} (h : l1.length ≤ 30 ∧ l2.length ≤ 30 ∧ ∀ m ∈ l1 ++ l2, m.1.size ≤ 150) : LightAns l1 l2 (.returned (.bool true)) := ⟨true, rfl, fun _ => h⟩
set_option maxRecDepth 100000 in
set_option maxHeartbeats 8000000 in
theorem light26_any (w : World) (u1 u2 : Value) (l1 l2 : List MkE) (h1 : SlV w 6 eCM u1 l1) (h2 : SlV w 6 eCM u2 l2) :
    Calls Tryz.prog 26 #[.agg #[u1, u2]] w fun e w' => LightAns l1 l2 e ∧ Below w.heap.size w w' := by
  obtain ⟨W, hW⟩ : ∃ W, w.alloc (.cells #[u1, u2] 24) = W := ⟨_, rfl⟩
  have hb0 : Below w.heap.size w W := by rw [← hW]; exact (Below.refl _ w).alloc (Nat.le_refl _) _
  have hB0 : Blk W w.heap.size 24 #[u1, u2] := by rw [← hW]; exact Blk.new w _ _
  have HS := Lib.hid (And.intro (h1.below hb0 (Nat.le_refl _)) (h2.below hb0 (Nat.le_refl _)))
  obtain ⟨A1, c1, rfl, hc1, hm1, _⟩ := h1
  obtain ⟨A2, c2, rfl, hc2, hm2, _⟩ := h2
  obtain ⟨n2, hn2⟩ : ∃ n, l2.length = n := ⟨_, rfl⟩
  obtain ⟨n1, hn1⟩ : ∃ n, l1.length = n := ⟨_, rfl⟩
  rw [hn2] at hB0 hW hc2 ⊢
  rw [hn1] at hB0 hW hc1 ⊢
  unfold maxLen at hm1 hm2
  have HL := Lib.hid (And.intro hn1 hn2)
  rw [hn1, hn2] at HS
  clear hn1 hn2
  have x0 := hB0.cell 0
  have x1 := hB0.cell 1
  simp at x0 x1
  obtain ⟨g, hg⟩ : ∃ g, w.heap.size = g := ⟨_, rfl⟩
  rw [hg] at hB0 x0 x1
  have HW := Lib.hid (And.intro hW (And.intro hb0 (And.intro hB0 hg))); clear hW hb0 hB0
  by_cases hk1 : 30 < n1
  · go_enter Tryz.func26, Tryz.ntmps26
    go_upto_region 1 with fail
    rw [HW.out.1]
    clear hg
    have hk1' : (30 : Int) < n1 := by omega
    go_wp2_with fail
    go_ret
    exact ⟨.no, HW.out.2.1⟩
  by_cases hk2 : 30 < n2
  · go_enter Tryz.func26, Tryz.ntmps26
    go_upto_region 1 with fail
    rw [HW.out.1]
    clear hg
    have hk1' : ¬ (30 : Int) < n1 := by omega
    have hk2' : (30 : Int) < n2 := by omega
    go_wp2_with fail
    go_ret
    exact ⟨.no, HW.out.2.1⟩
  have hk1' : ¬ (30 : Int) < n1 := by omega
  have hk2' : ¬ (30 : Int) < n2 := by omega
  go_enter Tryz.func26, Tryz.ntmps26
  go_upto_region 1 with fail
  rw [HW.out.1]
  clear hg
  go_upto_region 3 with fail
  have k0 : ∀ m : Held (fun W => Blk W g 24 #[.slice A1 n1 c1, .slice A2 n2 c2]), (HeldW m).cell? ⟨g, 0, none⟩ = some (.slice A1 n1 c1) := fun m => (HeldW_spec m).cell 0
  have k1 : ∀ m : Held (fun W => Blk W g 24 #[.slice A1 n1 c1, .slice A2 n2 c2]), (HeldW m).cell? ⟨g, 1, none⟩ = some (.slice A2 n2 c2) := fun m => (HeldW_spec m).cell 1
  have HC0 := Lib.hid HW.out.2.2.1.drew
  clear x0 x1
  refine wp_region_mix (fun W => Blk W g 24 #[.slice A1 n1 c1, .slice A2 n2 c2]) [(1, true), (2, true), (4, true), (5, true), (8, true), (0, false), (3, false), (6, false), (7, true)] (by kernel_rfl) (by kernel_rfl) ?_
  simp only [pickP, List.filterMap_cons, List.filterMap_nil, List.getElem?_toArray, List.getElem?_cons_succ, List.getElem?_cons_zero, Option.map_some]
  repeat (apply mix_first; apply Exists.intro; refine ⟨fun m => ?_, HC0.out, ?_⟩; · (go_big_quiet_step (fail); exact wpQuiet_nil rfl))
  refine mix_forced HC0.out ?_
  go_wp2_with fail
  show mixC _ _ _ _ _ _ _
  have hs0 := HW.out.2.1.size
  rw [HW.out.2.2.2] at hs0
  have hbE : Below W.heap.size W (W.alloc (.cells #[] 91)).drew := ((Below.refl _ W).alloc (Nat.le_refl _) _).drew
  have hoE : (W.alloc (.cells #[] 91)).drew.ownsRow W.heap.size 91 6 (.slice (some ⟨W.heap.size, 0, none⟩) 0 0) 0 [] := own_emptyB W W.heap.size _ 6 (Nat.le_refl _)
  have HE := Lib.hid (And.intro hbE (And.intro hoE (And.intro (HW.out.2.2.1.below hbE HW.out.2.2.1.lt) (And.intro (HS.out.1.below hbE (Nat.le_refl _)) (HS.out.2.below hbE (Nat.le_refl _))))))
  clear hbE hoE HC0
  generalize (W.alloc (.cells #[] 91)).drew = W1 at *
  refine mix_forced HE.out.2.2.1 ?_
  go_wp2_with (at_builtin; refine wpList_app_slv rfl _ _ 22 rfl W.heap.size 91 (.agg #[.string ⟨#[]⟩, .int .i64 0, .int .i64 0, .int .u32 0, .int .i64 0, .int .u32 0]) 6 56 Tryz.underlying22 infoMk rfl (by decide) _ 0 _ rfl HE.out.2.1 eCM eCM_len eCM_one _ l1 rfl HE.out.2.2.2.1 (by have := HL.out.1; omega) (by decide) HE.out.1.size ?_; intro v5 w5 ho5 hg5)
  show mixC _ _ _ _ _ _ _
  obtain ⟨A5, k5, rfl, _, _, _⟩ := SlV_of_any ho5
  have hb5 := HE.out.1.grown hg5 HE.out.1.size (fun q hq => (HE.out.2.1.lt q hq).1)
  have H5 := Lib.hid (And.intro hb5 (And.intro ho5 (And.intro (HW.out.2.2.1.below hb5 HW.out.2.2.1.lt) (HS.out.2.below hb5 (Nat.le_refl _))))); clear ho5 hg5 hb5 HE
  refine mix_forced H5.out.2.2.1 ?_
  go_wp2_with (at_builtin; refine wpList_app_slv rfl _ _ 22 rfl W.heap.size 91 (.agg #[.string ⟨#[]⟩, .int .i64 0, .int .i64 0, .int .u32 0, .int .i64 0, .int .u32 0]) 6 56 Tryz.underlying22 infoMk rfl (by decide) _ (0 + l1.length) _ rfl H5.out.2.1 eCM eCM_len eCM_one _ l2 rfl H5.out.2.2.2 (by have := HL.out; omega) (by decide) H5.out.1.size ?_; intro v6 w6 ho6 hg6)
  show mixC _ _ _ _ _ _ _
  have hb6 := H5.out.1.grown hg6 H5.out.1.size (fun q hq => (H5.out.2.1.lt q hq).1)
  have ho6' : w6.ownsRow W.heap.size 91 6 v6 (l1 ++ l2).length ((l1 ++ l2).flatMap eCM) := by
    rw [List.length_append, List.flatMap_append]
    rw [List.nil_append, Nat.zero_add] at ho6
    exact ho6
  have hsl6 : SlV w6 6 eCM v6 (l1 ++ l2) := SlV.of_own ho6' eCM_len (by decide)
  have hll : (l1 ++ l2).length = n1 + n2 := by rw [List.length_append, HL.out.1, HL.out.2]
  have HYES := Lib.hid (fun (h : ∀ m ∈ l1 ++ l2, m.1.size ≤ 150) => (LightAns.yes ⟨by have := HL.out.1; omega, by have := HL.out.2; omega, h⟩ : LightAns l1 l2 (.returned (.bool true))))
  rw [hll] at ho6'
  obtain ⟨A6, k6, rfl, _, _, _⟩ := SlV_of_any ho6'
  have H6 := Lib.hid (And.intro hb6 (And.intro (HW.out.2.2.1.below hb6 HW.out.2.2.1.lt) hsl6)); clear ho6 hg6 hb6 H5 ho6' hsl6
  generalize l1 ++ l2 = L at *
  obtain ⟨n, hnn⟩ : ∃ n, n1 + n2 = n := ⟨_, rfl⟩
  rw [hnn] at hll
  have hn60 : n ≤ 60 := by omega
  have HN := Lib.hid hll
  rw [hnn] at H6 ⊢
  clear hll hnn
  repeat (apply mix_first; apply Exists.intro; refine ⟨fun m => ?_, H6.out.2.1, ?_⟩; · (go_big_quiet_step (fail); exact wpQuiet_nil rfl))
  refine mix_nil H6.out.2.1 ?_
  clear k0 k1
  go_wp2_with fail
  go_loopw [23] (fun iv wr => ∃ i : Nat, i ≤ n ∧ iv = .int .i64 i ∧ Below w.heap.size w wr ∧ Below w6.heap.size w6 wr ∧ ∀ j (hj : j < L.length), j < i → L[j].1.size ≤ 150) (fun iv _ => n - (intOf iv).toNat)
  case atStart => exact ⟨0, Nat.zero_le _, rfl, HW.out.2.1.trans (H6.out.1.mono HW.out.2.1.size), Below.refl _ _, fun j _ h => absurd h (Nat.not_lt_zero _)⟩
  case round =>
    obtain ⟨i, hi, rfl, hb, hb6, hall⟩ := hrel
    have HA := Lib.hid hall; clear hall
    have hslr := H6.out.2.2.below hb6 (Nat.le_refl _)
    by_cases hlt : i < n
    · have hiL : i < L.length := by have := HN.out; omega
      obtain ⟨A', c', hA, _, _, hso⟩ := hslr
      obtain ⟨rfl, -, rfl⟩ : A6 = A' ∧ n = L.length ∧ k6 = c' := by simpa using hA
      clear hA
      obtain ⟨b, off, rfl, hbb, hcs⟩ := hso (by omega)
      have c0 := hcs i hiL 0 (by omega)
      have c1 := hcs i hiL 1 (by omega)
      have c2 := hcs i hiL 2 (by omega)
      have c3' := hcs i hiL 3 (by omega)
      have c4 := hcs i hiL 4 (by omega)
      have c5 := hcs i hiL 5 (by omega)
      simp only [eCM, List.getElem?_cons_succ, List.getElem?_cons_zero, Nat.add_zero] at c0 c1 c2 c3' c4 c5
      clear hcs hso hbb
      have hi1 : (i : Int) < n := by omega
      have HS1 := Lib.hid (fun (hx : L[i].1.size ≤ 150) j (hj : j < L.length) (hji : j < i + 1) => (by
        by_cases h : j < i
        · exact HA.out j hj h
        · obtain rfl : j = i := by omega
          exact hx : L[j].1.size ≤ 150))
      obtain ⟨⟨q, ⟨kd, md, tm, sz, sm⟩⟩, hx⟩ : ∃ x, L[i] = x := ⟨_, rfl⟩
      simp only [hx] at c0 c1 c2 c3' c4 c5 HS1
      clear hx
      have hba := (Below.refl wr.heap.size wr).alloc (Nat.le_refl _) (.cells #[.string q, .int .i64 kd, .int .i64 md, .int .u32 tm, .int .i64 sz, .int .u32 sm] 91)
      have H1 := Lib.hid (And.intro (hb.trans (hba.mono hb.size)) (hb6.trans (hba.mono hb6.size))); clear hb hb6 hba
      by_cases hq : (150 : Int) < q.size
      · go_wp2_with fail
        go_ret
        exact ⟨.no, H1.out.1⟩
      · have HQ := Lib.hid (HS1.out (by omega)); clear HS1
        go_wp2_with fail
        go_roundw
        case rel => exact ⟨i + 1, by omega, by go_num, H1.out.1, H1.out.2, HQ.out⟩
        case measure => simp [intOf]; omega
    · obtain rfl : i = n := by omega
      have HB := Lib.hid hb; clear hb hb6 hslr
      go_wp2_with fail
      go_ret
      exact ⟨HYES.out (fun m hm => by
        obtain ⟨j, hj, rfl⟩ := List.getElem_of_mem hm
        exact HA.out j hj (by have := HN.out; omega)), HB.out⟩
end Go.Proofs.YteofiffbobbdmaaGreatDoor
/- Law 29's Light, of any Base and items. -/
set_option linter.unusedVariables false
set_option linter.unusedSimpArgs false
namespace Go.Proofs.YteofiffbobbdmaaGreatDoor
open Go Go.RowKit
open Sw
/-- what law 29's Light answers -/
def Light29 (l1 l2 : List MkE) (l : List NE) (e : Ending) : Prop := ∃ R : Bool, e = .returned (.bool R) ∧ (R = true → (l1.length ≤ 30 ∧ l2.length ≤ 30 ∧ ∀ m ∈ l1 ++ l2, m.1.size ≤ 150) ∧ l.length ≤ 30 ∧ (∀ e ∈ l, SmallE e) ∧ putsT [] l = (0, l))
theorem Light29.no {l1 l2 : List MkE} {l : List NE} : Light29 l1 l2 l (.returned (.bool false)) := ⟨false, rfl, fun h => (by cases h)⟩
set_option maxRecDepth 100000 in
set_option maxHeartbeats 4000000 in
theorem light29_any (w : World) (u1 u2 : Value) (l1 l2 : List MkE) (h1 : SlV w 6 eCM u1 l1) (h2 : SlV w 6 eCM u2 l2) (hin1 : ∀ m ∈ l1, 0 ≤ m.2.time ∧ m.2.time < 4294967296) (hin2 : ∀ m ∈ l2, 0 ≤ m.2.time ∧ m.2.time < 4294967296)
    (v : Value) (l : List NE) (h : SlV w 5 eCSN v l) (hin : ∀ x ∈ l, x.1.size ≤ maxLen ∧ NdIn x.2) :
    Calls Tryz.prog 7 #[.agg #[u1, u2], v] w fun e w' => Light29 l1 l2 l e ∧ Below w.heap.size w w' := by
  have hb0 : Below w.heap.size w (w.alloc (.cells #[u1, u2] 24)) := (Below.refl _ w).alloc (Nat.le_refl _) _
  have hB0 := Blk.new w 24 #[u1, u2]
  have HL := Lib.hid (light26_any _ u1 u2 l1 l2 (h1.below hb0 (Nat.le_refl _)) (h2.below hb0 (Nat.le_refl _)))
  have HM := Lib.hid (And.intro (And.intro h1 h2) (And.intro hin1 hin2)); clear hin1 hin2
  have H0 := Lib.hid (And.intro hb0 (And.intro hB0 (And.intro h hin)))
  obtain ⟨A, c, rfl, _, _, _⟩ := h
  obtain ⟨A1, c1, rfl, _, _, _⟩ := h1
  obtain ⟨A2, c2, rfl, _, _, _⟩ := h2
  obtain ⟨k1, hk1⟩ : ∃ n, l1.length = n := ⟨_, rfl⟩
  obtain ⟨k2, hk2⟩ : ∃ n, l2.length = n := ⟨_, rfl⟩
  rw [hk1, hk2] at HL H0 HM hB0 hb0 ⊢
  clear hk1 hk2 hb0 hB0 hin
  obtain ⟨n, hn⟩ : ∃ n, l.length = n := ⟨_, rfl⟩
  rw [hn] at H0
  rw [hn]
  have HN := Lib.hid hn; clear hn
  go_enter Tryz.func7, Tryz.ntmps7
  go_wp2_with fail
  refine HL.out.mono ?_
  rintro e w1 ⟨⟨R, rfl, hR1⟩, hb1⟩
  have hB1 := H0.out.2.1.below hb1 H0.out.2.1.lt
  have x0 := hB1.cell 0
  have x1 := hB1.cell 1
  simp at x0 x1
  have H1 := Lib.hid (And.intro (H0.out.1.trans (hb1.mono H0.out.1.size)) hR1); clear hb1 hB1 hR1
  cases R with
  | false =>
    go_wp2_with fail
    go_ret
    exact ⟨.no, H1.out.1⟩
  | true =>
    have hl := H1.out.2 rfl
    have HR := Lib.hid (right26_any w1 (.slice A1 k1 c1) (.slice A2 k2 c2) l1 l2 (HM.out.1.1.below H1.out.1 (Nat.le_refl _)) (HM.out.1.2.below H1.out.1 (Nat.le_refl _)) (by have := hl.1; omega) (by have := hl.2.1; omega) (fun m hm => ⟨by have := hl.2.2 m (List.mem_append_left _ hm); omega, HM.out.2.1 m hm⟩) (fun m hm => ⟨by have := hl.2.2 m (List.mem_append_right _ hm); omega, HM.out.2.2 m hm⟩))
    have HLL := Lib.hid hl; clear hl
    go_wp2_with fail
    refine HR.out.mono ?_
    rintro e w2 ⟨⟨R, rfl⟩, hb2⟩
    have H2 := Lib.hid (H1.out.1.trans (hb2.mono H1.out.1.size)); clear hb2 x0 x1 HR
    cases R with
    | false =>
      go_wp2_with fail
      go_ret
      exact ⟨.no, H2.out⟩
    | true =>
      have HLI := Lib.hid (light16_any w2 (.slice A n c) l (H0.out.2.2.1.below H2.out (Nat.le_refl _)) (fun e he => ⟨(H0.out.2.2.2 e he).1, (H0.out.2.2.2 e he).2.size⟩))
      go_wp2_with fail
      refine HLI.out.mono ?_
      rintro e w3 ⟨R, rfl, hR, hb3⟩
      have H3 := Lib.hid (And.intro (H2.out.trans (hb3.mono H2.out.size)) hR); clear hb3 hR HLI
      cases R with
      | false =>
        go_wp2_with fail
        go_ret
        exact ⟨.no, H3.out.1⟩
      | true =>
        obtain ⟨hl30, hsm⟩ := H3.out.2 rfl
        have HRR := Lib.hid (ref16Right_any w3 (.slice A n c) l (H0.out.2.2.1.below H3.out.1 (Nat.le_refl _)) (by omega) (fun x hx => ⟨by have := (hsm x hx).1; omega, (H0.out.2.2.2 x hx).2⟩))
        have HSM := Lib.hid (And.intro hl30 hsm); clear hl30 hsm
        go_wp2_with fail
        refine HRR.out.mono ?_
        rintro e w4 ⟨R, rfl, hR, hb4⟩
        have H4 := Lib.hid (And.intro (H3.out.1.trans (hb4.mono H3.out.1.size)) hR); clear hb4 hR HRR
        go_wp2_with fail
        go_ret
        exact ⟨⟨R, rfl, fun h => ⟨HLL.out, HN.out ▸ HSM.out.1, HSM.out.2, H4.out.2.1 h⟩⟩, H4.out.1⟩
end Go.Proofs.YteofiffbobbdmaaGreatDoor
/- The contract of swingleref01.Same: are two slices of texts alike? -/
set_option linter.unusedVariables false
set_option linter.unusedSimpArgs false
namespace Go.Proofs.YteofiffbobbdmaaGreatDoor
open Go.RowKit
open Sw
/-- a text as it lies -/
def sE (t : ByteArray) : List Value := [.string t]
theorem beqT (s t : ByteArray) : (s.toList == t.toList) = decide (s = t) := by
  rw [ByteArray.toList_eq, ByteArray.toList_eq]
  by_cases h : s = t
  · subst h; simp
  · rw [decide_eq_false h, beq_eq_false_iff_ne]
    intro e
    apply h
    cases s; cases t
    congr 1
    exact Array.toList_inj.1 e
set_option maxRecDepth 100000 in
set_option maxHeartbeats 2000000 in
theorem same_any (w : World) (v1 v2 : Value) (l m : List ByteArray) (h1 : SlV w 1 sE v1 l) (h2 : SlV w 1 sE v2 m) :
    Calls Tryz.prog 16 #[v1, v2] w fun e w' => e = .returned (.bool (decide (l = m))) ∧ ∃ n, w' = w.drewN n := by
  obtain ⟨A1, c1, rfl, hc1, hm1, s1⟩ := h1
  obtain ⟨A2, c2, rfl, hc2, hm2, s2⟩ := h2
  unfold maxLen at hm1 hm2
  by_cases hlen : l.length = m.length
  · obtain ⟨b, hb⟩ : ∃ b : Bool, decide (l = m) = b := ⟨_, rfl⟩
    rw [hb]
    have HB := Lib.hid hb; clear hb
    obtain ⟨N, hN⟩ : ∃ N, N = l.length := ⟨_, rfl⟩
    have hN2 : m.length = N := by omega
    rw [← hN, hN2]
    rw [← hN] at hc1
    rw [hN2] at hc2
    have HL := Lib.hid (And.intro hN hN2); clear hlen hN hN2
    have HS := Lib.hid (And.intro s1 s2); clear s1 s2
    go_enter Tryz.func16, Tryz.ntmps16
    go_wp2_with fail
    go_loopw [13] (fun i wr => ∃ k q : Nat, k ≤ N ∧ i = .int .i64 k ∧ l.take k = m.take k ∧ wr = w.drewN q) (fun i _ => N - (intOf i).toNat)
    case atStart => exact ⟨0, 0, Nat.zero_le _, rfl, by simp, rfl⟩
    case round =>
      obtain ⟨k, q, hk, rfl, htk, rfl⟩ := hrel
      have HT := Lib.hid htk; clear htk
      by_cases hlt : k < N
      · have k1 : k < l.length := by have := HL.out; omega
        have k2 : k < m.length := by have := HL.out; omega
        obtain ⟨b1, o1, rfl, _, q1⟩ := HS.out.1 (by omega)
        obtain ⟨b2, o2, rfl, _, q2⟩ := HS.out.2 (by omega)
        have g1 := q1 k k1 0 (by omega)
        have g2 := q2 k k2 0 (by omega)
        simp [sE] at g1 g2
        have t1 : l.take (k + 1) = l.take k ++ [l[k]] := by rw [List.take_succ_eq_append_getElem k1]
        have t2 : m.take (k + 1) = m.take k ++ [m[k]] := by rw [List.take_succ_eq_append_getElem k2]
        have hne : l[k] ≠ m[k] → l ≠ m := fun h e => h (by subst e; rfl)
        have HE := Lib.hid (And.intro t1 (And.intro t2 hne)); clear t1 t2 hne q1 q2
        have i0 : (0 : Int) ≤ k := by omega
        have i1 : (k : Int) < N := by omega
        generalize l[k] = x at *
        generalize m[k] = y at *
        have hbq := beqT x y
        by_cases hxy : x = y
        · have HXY := Lib.hid hxy
          rw [decide_eq_true hxy] at hbq
          clear hxy
          go_wp2_with fail
          go_quiet (fail)
          go_wp2_with fail
          go_roundw
          case rel => exact ⟨k + 1, q + nq, by omega, by go_num, by rw [HE.out.1, HE.out.2.1, HT.out, HXY.out], rfl⟩
          case measure => simp [intOf]; omega
        · rw [decide_eq_false hxy] at hbq
          have hbf : b = false := by rw [← HB.out]; exact decide_eq_false (HE.out.2.2 hxy)
          subst hbf
          clear hxy
          go_wp2_with fail
          go_quiet (fail)
          go_wp2_with fail
          go_ret
          exact ⟨rfl, q + nq, by rw [World.drewN_drewN]⟩
      · obtain rfl : k = N := by omega
        have hbt : b = true := by
          rw [← HB.out]
          have h := HT.out
          rw [List.take_of_length_le (by have := HL.out; omega), List.take_of_length_le (by have := HL.out; omega)] at h
          exact decide_eq_true h
        subst hbt
        go_wp2_with fail
        go_ret
        exact ⟨rfl, q, rfl⟩
  · have hd : decide (l = m) = false := decide_eq_false (fun e => hlen (by rw [e]))
    have hne : (l.length : Int) ≠ m.length := by omega
    have hbn : ((l.length : Int) == (m.length : Int)) = false := by rw [beq_eq_false_iff_ne]; exact hne
    rw [hd]
    clear hd s1 s2
    go_enter Tryz.func16, Tryz.ntmps16
    go_wp2_with fail
    go_ret
    exact ⟨rfl, 0, rfl⟩
end Go.Proofs.YteofiffbobbdmaaGreatDoor
