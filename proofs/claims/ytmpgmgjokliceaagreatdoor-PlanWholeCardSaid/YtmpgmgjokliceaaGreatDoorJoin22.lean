/- Several texts, joined for the limit of sixty files; each one opens with its own comment. -/
import Derived.Test.YtmpgmgjokliceaaGreatDoorJoin5
import Derived.StillTail
import Derived.StillTactics
import Derived.Test.YtmpgmgjokliceaaGreatDoorJoin21
import Derived.Test.YtmpgmgjokliceaaGreatDoorJoin19
import Derived.Test.YtmpgmgjokliceaaGreatDoorJoin14
import Derived.Test.YtmpgmgjokliceaaGreatDoorJoin13
/- A region that draws its order, walked in an order of one's own: an operation that yields the same in all worlds of a class may go first; any other one must be the only one that is ready. Over any program. -/
set_option linter.unusedVariables false
set_option linter.unusedSimpArgs false
namespace Sw
open Go
/-- Q where the region goes on, else nothing -/
def OnlyN (Q : Exit → Act → World → Prop) : Exit → Act → World → Prop
  | .normal, a, w => Q .normal a w
  | _, _, _ => False
theorem OnlyN.imp {Q : Exit → Act → World → Prop} : ∀ (e : Exit) (a : Act) (w : World), OnlyN Q e a w → Q e a w := fun e a w h => by
  cases e <;> first | exact h | exact (h : False).elim
theorem OnlyN.out {Q : Exit → Act → World → Prop} : ¬ LetsOut (OnlyN Q) := fun ⟨_, _, h⟩ => h
section
variable {P : Program} {ops : Array Oper} {md : Region.Mode} {Q : Exit → Act → World → Prop} {C : World → Prop}
def anyC (P : Program) (md : Region.Mode) (ops : Array Oper) (C : World → Prop) (Q : Exit → Act → World → Prop) : Nat → Array Bool → Act → World → Prop
  | 0, listed, a, w => C w ∧ Region.ready md ops listed = [] ∧ Q .normal a w
  | f + 1, listed, a, w => C w ∧ Region.ready md ops listed ≠ [] ∧ ∀ i ∈ Region.ready md ops listed, wpOp P ops (OnlyN Q) i (anyC P md ops C Q f (listed.setIfInBounds i true)) a w
theorem anyC_C : ∀ {f : Nat} {listed : Array Bool} {a : Act} {w : World}, anyC P md ops C Q f listed a w → C w
  | 0, _, _, _, h => h.1
  | _ + 1, _, _, _, h => h.1
theorem wpAny_of_anyC : ∀ (f : Nat) (listed : Array Bool) (a : Act) (w : World), anyC P md ops C Q f listed a w → wpAny P md ops (OnlyN Q) f listed a w
  | 0, _, _, _, h => h.2
  | f + 1, listed, a, w, h => ⟨fun h0 => absurd h0 h.2.1, fun i hi => wpOp_mono (fun a w => wpAny_of_anyC f _ a w) (h.2.2 i hi)⟩
theorem upon_put {oj : Oper} {K K' : Act → World → Prop} {a b : Act} (hK : ∀ ds u w', K (({ b with defers := ds ++ b.defers } : Act).put oj.dst u) w' → K' (({ a with defers := ds ++ a.defers } : Act).put oj.dst u) w') : ∀ r : Result Next, oj.upon P b K (OnlyN Q) r → oj.upon P a K' (OnlyN Q) r := fun r h => by
  have h0 : ∀ u w', K (b.put oj.dst u) w' → K' (a.put oj.dst u) w' := fun u w' => hK [] u w'
  cases r with
  | ok n w' =>
    cases n <;> simp only [Oper.upon] at h ⊢
    case value u => exact h0 u w' h
    case skip => exact h0 _ w' h
    case defer d => exact hK [d] _ w' h
    case enter f args => exact Calls.mono h (fun e w'' he => by cases e <;> first | exact h0 _ _ he | exact he)
    case row row args => exact Rows.mono h (fun v w'' he => h0 _ _ he)
  | halt x w' => cases x <;> simp only [Oper.upon] at h ⊢ <;> exact h
theorem wpOp_put {j : Nat} {oi oj : Oper} {v : Value} {a : Act} {w : World} (hj : ops[j]? = some oj) (hap : oi.apart ops oj = true) (hsj : ∀ cs b, oj.op ≠ .select cs b)
    {K K' : Act → World → Prop} (hK : ∀ ds u w', K ((({ a with defers := ds ++ a.defers } : Act).put oj.dst u).put oi.dst v) w' → K' (({ a with defers := ds ++ a.defers } : Act).put oj.dst u) w')
    (h : wpOp P ops (OnlyN Q) j K (a.put oi.dst v) w) : wpOp P ops (OnlyN Q) j K' a w := by
  obtain ⟨h1, h2, h3⟩ := Oper.apart_spec hap
  unfold wpOp at *
  simp only [hj] at *
  rw [wanted_put oj a oi.dst v h1] at h
  have hpd : ∀ (ds : List Deferred) (b : Act) (x : Option Tmp) (u : Value), ({ b.put x u with defers := ds } : Act) = ({ b with defers := ds } : Act).put x u := fun ds b x u => by cases x <;> rfl
  have hdd : ∀ (b : Act) (x : Option Tmp) (u : Value), (b.put x u).defers = b.defers := fun b x u => by cases x <;> rfl
  split
  · rename_i hw
    rw [if_pos hw] at h
    rcases h with h | h
    · left
      unfold Oper.wp at *
      rw [execOp_put oj hsj a oi.dst v h1] at h
      refine upon_put (fun ds u w' hk => hK ds u w' ?_) _ h
      rw [hpd, hdd] at hk
      rw [Act.put_comm _ v u h2] at hk
      exact hk
    · exact absurd h.2 OnlyN.out
  · rename_i hw
    rw [if_neg hw] at h
    refine hK [] undef w ?_
    rw [← Act.put_comm _ v undef h2]
    exact h
theorem anyC_first {i : Nat} {oi : Oper} {v : Value} (hi : ops[i]? = some oi) (hsel : ∀ (j : Nat) (o : Oper) cs b, ops[j]? = some o → o.op ≠ .select cs b) :
    ∀ (f : Nat) (listed : Array Bool) (a : Act) (w : World),
      (∀ j oj, ops[j]? = some oj → j ≠ i → listed.getD j true = false → (∀ e ∈ oj.after, Region.binds md e = true → e.on ≠ i) → oi.apart ops oj = true) →
      i ∈ Region.ready md ops listed → C w → (∀ W, C W → ∃ v', YieldsAt P ops W oi v' a ∧ a.put oi.dst v' = a.put oi.dst v) →
      anyC P md ops C Q f (listed.setIfInBounds i true) (a.put oi.dst v) w → anyC P md ops C Q (f + 1) listed a w := by
  intro f
  induction f with
  | zero =>
    intro listed a w _ hr hC hy H
    refine ⟨hC, fun h => (by rw [h] at hr; cases hr), fun j hj => ?_⟩
    by_cases hji : j = i
    · subst hji
      obtain ⟨v', hy1, hy2⟩ := hy w hC
      exact wpOp_of_stOp (fun a' h' => h') (hy1.stOp (K := fun a' => anyC P md ops C Q 0 (listed.setIfInBounds j true) a' w) hi (by rw [hy2]; exact H))
    · have := ready_mono hj hji
      rw [H.2.1] at this
      cases this
  | succ f ih =>
    intro listed a w hfree hr hC hy H
    have hun := (mem_ready.1 hr).1
    refine ⟨hC, fun h => (by rw [h] at hr; cases hr), fun j hj => ?_⟩
    by_cases hji : j = i
    · subst hji
      obtain ⟨v', hy1, hy2⟩ := hy w hC
      exact wpOp_of_stOp (fun a' h' => h') (hy1.stOp (K := fun a' => anyC P md ops C Q (f + 1) (listed.setIfInBounds j true) a' w) hi (by rw [hy2]; exact H))
    · have h1 := H.2.2 j (ready_mono hj hji)
      obtain ⟨hjun, oj, hoj, hall⟩ := mem_ready.1 hj
      have hnot : ∀ e ∈ oj.after, Region.binds md e = true → e.on ≠ i := fun e he hb heq => by
        have h1 := hall e he hb
        rw [heq, getD_both hun] at h1
        cases h1
      have hap := hfree j oj hoj hji hjun hnot
      have hap3 := (Oper.apart_spec hap)
      refine wpOp_put hoj hap (fun cs b => hsel j oj cs b hoj) (fun ds u w' hk => ?_) h1
      refine ih (listed.setIfInBounds j true) _ w' (fun k ok hk' hki hunk hno => hfree k ok hk' hki (by
        by_cases hjk : j = k
        · subst hjk; exact hjun
        · rw [getD_set_ne true hjk] at hunk; exact hunk) hno) (ready_mono hr (Ne.symm hji)) (anyC_C hk) (fun W hW => ?_) (by rw [Array.setIfInBounds_comm _ _ hji]; exact hk)
      obtain ⟨v', hy1, hy2⟩ := hy W hW
      refine ⟨v', hy1.of_same ?_ ?_, ?_⟩
      · exact execOp_put oi (fun cs b => hsel i oi cs b hi) ({ a with defers := ds ++ a.defers } : Act) oj.dst u hap3.2.2
      · exact wanted_put oi ({ a with defers := ds ++ a.defers } : Act) oj.dst u hap3.2.2
      · have hb : ∀ x, ({ a with defers := ds ++ a.defers } : Act).put oi.dst x = { a.put oi.dst x with defers := ds ++ a.defers } := fun x => by cases oi.dst <;> rfl
        rw [← Act.put_comm _ v' u hap3.2.1, ← Act.put_comm _ v u hap3.2.1, hb, hb, hy2]
/-- the walk in an order of one's own: 'true': yields the same in the class; 'false': forced -/
def mixC (P : Program) (ops : Array Oper) (C : World → Prop) (Q : Exit → Act → World → Prop) : List (Oper × Bool) → Act → World → Prop
  | [], a, w => C w ∧ Q .normal a w
  | (o, true) :: r, a, w => ∃ A1, (∀ m : Held C, wpStill P ops (HeldW m) (fun a' => a' = A1) [o] a) ∧ C w ∧ mixC P ops C Q r A1 w
  | (o, false) :: r, a, w => C w ∧ wpList P ops (OnlyN fun _ a' w' => mixC P ops C Q r a' w') [o] a w
def permB (md : Region.Mode) (ops : Array Oper) : List (Nat × Bool) → Array Bool → Bool
  | [], listed => (Region.ready md ops listed).isEmpty
  | (i, true) :: r, listed => (Region.ready md ops listed).contains i && Region.free md ops listed i && permB md ops r (listed.setIfInBounds i true)
  | (i, false) :: r, listed => decide (Region.ready md ops listed = [i]) && permB md ops r (listed.setIfInBounds i true)
def pickP (ops : Array Oper) (perm : List (Nat × Bool)) : List (Oper × Bool) := perm.filterMap fun p => (ops[p.1]?).map fun o => (o, p.2)
theorem anyC_of_mix (hs : Region.noSelect ops = true) : ∀ (perm : List (Nat × Bool)) (listed : Array Bool) (a : Act) (w : World), permB md ops perm listed = true → mixC P ops C Q (pickP ops perm) a w → anyC P md ops C Q perm.length listed a w
  | [], listed, a, w, hB, h => ⟨h.1, by simpa [permB] using hB, h.2⟩
  | (i, true) :: r, listed, a, w, hB, h => by
    simp only [permB, Bool.and_eq_true] at hB
    obtain ⟨⟨hr, hf⟩, hB'⟩ := hB
    have hr' : i ∈ Region.ready md ops listed := by simpa using hr
    obtain ⟨_, o, ho, _⟩ := mem_ready.1 hr'
    have e : pickP ops ((i, true) :: r) = (o, true) :: pickP ops r := by unfold pickP; simp [ho]
    rw [e] at h
    obtain ⟨A1, hv, hC, hm⟩ := h
    have hst : ∀ W, C W → ∃ v', YieldsAt P ops W o v' a ∧ a.put o.dst v' = A1 := fun W hW => by
      have h1 : stOp P ops W i (fun a' => a' = A1) a := by unfold stOp; simp only [ho]; exact hv ⟨W, hW⟩
      exact yieldsAt_of_stOp ho h1
    obtain ⟨v, _, rfl⟩ := hst w hC
    exact anyC_first ho (Region.noSelect_spec hs) r.length listed a w (Region.free_spec ho hf) hr' hC hst (anyC_of_mix hs r _ _ w hB' hm)
  | (i, false) :: r, listed, a, w, hB, h => by
    simp only [permB, Bool.and_eq_true, decide_eq_true_eq] at hB
    obtain ⟨hr, hB'⟩ := hB
    have hr' : i ∈ Region.ready md ops listed := by rw [hr]; simp
    obtain ⟨_, o, ho, _⟩ := mem_ready.1 hr'
    have e : pickP ops ((i, false) :: r) = (o, false) :: pickP ops r := by unfold pickP; simp [ho]
    rw [e] at h
    obtain ⟨hC, hw⟩ := h
    refine ⟨hC, by rw [hr]; simp, fun j hj => ?_⟩
    rw [hr] at hj
    obtain rfl : j = i := by simpa using hj
    have hgo : ∀ (a' : Act) (w' : World), mixC P ops C Q (pickP ops r) a' w' → anyC P md ops C Q r.length (listed.setIfInBounds j true) a' w' := fun a' w' hm => anyC_of_mix hs r _ a' w' hB' hm
    unfold wpOp
    simp only [ho]
    simp only [wpList] at hw
    split
    · rename_i hwt
      rw [if_pos hwt] at hw
      rcases hw with hw | hw
      · left
        unfold Oper.wp at *
        generalize (execOp a.eval o).run P w = res at *
        cases res with
        | ok n w' =>
          cases n <;> simp only [Oper.upon] at hw ⊢
          case value u => exact hgo _ _ hw
          case skip => exact hgo _ _ hw
          case defer d => exact hgo _ _ hw
          case enter f args => exact Calls.mono hw (fun e w'' he => by
            cases e
            · exact hgo _ _ he
            · exact he
            · exact absurd he OnlyN.out)
          case row row args => exact Rows.mono hw (fun v w'' he => hgo _ _ he)
        | halt x w' => cases x <;> simp only [Oper.upon] at hw ⊢ <;> exact hw
      · exact absurd hw.2 OnlyN.out
    · rename_i hwt
      rw [if_neg hwt] at hw
      exact hgo _ _ hw
end
theorem wp_region_mix {P : Program} (C : World → Prop) (perm : List (Nat × Bool)) {id : Nat} {Q : Exit → Act → World → Prop} {a : Act} {w : World} {l : List Oper} (hm : P.follows .mixedOrders = true)
    (hB : (Region.noSelect l.toArray && decide (perm.length = l.length) && permB .any l.toArray perm (Array.replicate l.length false)) = true)
    (h : mixC P l.toArray C Q (pickP l.toArray perm) a w.drew) : (Code.region id l.toArray true).wp P Q a w := by
  simp only [Bool.and_eq_true, decide_eq_true_eq] at hB
  obtain ⟨⟨hs, hl⟩, hp⟩ := hB
  refine Code.wp_mono OnlyN.imp (wp_region_any hm (wpAny_of_anyC (C := C) _ _ _ _ ?_))
  have := anyC_of_mix (C := C) (Q := Q) hs perm (Array.replicate l.length false) a w.drew hp h
  rw [hl] at this
  simpa using this
theorem mix_nil {P : Program} {ops : Array Oper} {C : World → Prop} {Q : Exit → Act → World → Prop} {a : Act} {w : World} (hC : C w) (h : Q .normal a w) : mixC P ops C Q [] a w := ⟨hC, h⟩
theorem still_of_quiet {P : Program} {ops : Array Oper} {o : Oper} {a A1 : Act} {W : World} (h : wpQuiet P ops (fun w' => ∃ _ : Unit, w' = W) (fun a' => a' = A1) [o] a) : wpStill P ops W (fun a' => a' = A1) [o] a := by
  simp only [wpQuiet, wpStill] at *
  split
  · rename_i hw
    rw [if_pos hw] at h
    obtain ⟨v, h1, h2⟩ := h
    have h3 := h1 W ⟨(), rfl⟩
    unfold Oper.quietAt at h3
    unfold Oper.still
    generalize (execOp a.eval o).run P W = r at *
    cases r with
    | ok n w' =>
      cases n <;> simp only [Oper.quietUpon] at h3 <;> simp only [Oper.stillUpon]
      case value u => exact ⟨h3.1, by rw [h3.2]; exact h2⟩
      case skip => exact ⟨h3.1, by rw [← h3.2]; exact h2⟩
      case enter f args => exact ⟨h3.1, v, h3.2.mono fun e w'' he => ⟨he.1, by obtain ⟨_, h⟩ := he.2; exact h⟩, h2⟩
    | halt x w' => simp only [Oper.quietUpon] at h3
  · rename_i hw
    rw [if_neg hw] at h
    exact h
theorem mix_first {P : Program} {ops : Array Oper} {C : World → Prop} {Q : Exit → Act → World → Prop} {o : Oper} {r : List (Oper × Bool)} {a : Act} {w : World}
    (h : ∃ A1, (∀ m : Held C, wpQuiet P ops (fun w' => ∃ _ : Unit, w' = HeldW m) (fun a' => a' = A1) [o] a) ∧ C w ∧ mixC P ops C Q r A1 w) : mixC P ops C Q ((o, true) :: r) a w := by
  obtain ⟨A1, h1, h2, h3⟩ := h
  exact ⟨A1, fun m => still_of_quiet (h1 m), h2, h3⟩
theorem mix_forced {P : Program} {ops : Array Oper} {C : World → Prop} {Q : Exit → Act → World → Prop} {o : Oper} {r : List (Oper × Bool)} {a : Act} {w : World} (hC : C w)
    (h : wpList P ops (OnlyN fun _ a' w' => mixC P ops C Q r a' w') [o] a w) : mixC P ops C Q ((o, false) :: r) a w := ⟨hC, h⟩
end Sw
/- (*plan.maker).same: have both trees the same at a path, and under it? -/
set_option linter.unusedVariables false
set_option linter.unusedSimpArgs false
namespace Sw
theorem sameN_iff : ∀ (a b : List NE), sameN a b = true ↔ a.length = b.length ∧ ∀ i (h1 : i < a.length) (h2 : i < b.length), alikeN a[i] b[i] = true
  | [], [] => by simp [sameN]
  | [], y :: b => by simp [sameN]
  | x :: a, [] => by simp [sameN]
  | x :: a, y :: b => by
    unfold sameN
    rw [Bool.and_eq_true, sameN_iff a b]
    constructor
    · rintro ⟨h0, hl, hi⟩
      refine ⟨by simp [hl], fun i h1 h2 => ?_⟩
      cases i with
      | zero => exact h0
      | succ i => exact hi i (by simpa using h1) (by simpa using h2)
    · rintro ⟨hl, hi⟩
      refine ⟨hi 0 (by simp) (by simp), by simpa using hl, fun i h1 h2 => ?_⟩
      exact hi (i + 1) (by simpa using h1) (by simpa using h2)
end Sw
namespace Go.Proofs.YtmpgmgjokliceaaGreatDoor
open Go Go.RowKit
open Sw
theorem str33 (s t : ByteArray) : (s.toList == t.toList) = decide (s = t) := by
  rw [ByteArray.toList_eq, ByteArray.toList_eq]
  by_cases h : s = t
  · subst h
    rw [decide_eq_true rfl]
    simp
  · rw [decide_eq_false h, beq_eq_false_iff_ne]
    intro e
    exact h (ByteArray.ext (Array.ext' e))
set_option maxRecDepth 100000 in
set_option maxHeartbeats 4000000 in
theorem alike1_any (w : World) (x y : NE) (hx : x.2.data.size ≤ maxLen) (hy : y.2.data.size ≤ maxLen) :
    Calls Tryz.prog 153 #[.agg (eCSN x).toArray, .agg (eCSN y).toArray] w fun e w' => e = .returned (.bool (alikeN x y)) ∧ Below w.heap.size w w' := by
  have HS := Lib.hid (fun W => nodeSame_any W x.2 y.2 hx hy)
  obtain ⟨p, a, b, c, d⟩ := x
  obtain ⟨q, a', b', c', d'⟩ := y
  simp only [eCSN, alikeN, Nd.c] at HS ⊢
  generalize decide (printN ⟨a, b, c, d⟩ = printN ⟨a', b', c', d'⟩) = R at *
  have hs := str33 p q
  generalize decide (p = q) = D at *
  obtain ⟨W, hW⟩ : ∃ W, (w.alloc (.cells #[.string p, .int .i64 a, .int .i64 b, .int .u32 c, .string d] 70)).alloc (.cells #[.string q, .int .i64 a', .int .i64 b', .int .u32 c', .string d'] 70) = W := ⟨_, rfl⟩
  have hb : Below w.heap.size w W := by rw [← hW]; exact ((Below.refl _ w).alloc (Nat.le_refl _) _).alloc (by simp) _
  have h1 : Blk W w.heap.size 70 #[.string p, .int .i64 a, .int .i64 b, .int .u32 c, .string d] := by rw [← hW]; exact blk_fst _ _ _ _
  have h2 : Blk W (w.heap.size + 1) 70 #[.string q, .int .i64 a', .int .i64 b', .int .u32 c', .string d'] := by rw [← hW]; exact blk_snd _ _ _ _
  have x0 := h1.cell 0
  have x1 := h1.cell 1
  have x2 := h1.cell 2
  have x3 := h1.cell 3
  have x4 := h1.cell 4
  have y0 := h2.cell 0
  have y1 := h2.cell 1
  have y2 := h2.cell 2
  have y3 := h2.cell 3
  have y4 := h2.cell 4
  simp only [List.getElem?_toArray, List.getElem?_cons_succ, List.getElem?_cons_zero] at x0 x1 x2 x3 x4 y0 y1 y2 y3 y4
  have HB := Lib.hid hb
  have HW := Lib.hid hW
  clear hb h1 h2 hW
  cases D with
  | false =>
    go_enter Tryz.func153, Tryz.ntmps153
    go_upto_region 1 with fail
    rw [HW.out]
    go_wp2_with fail
    go_ret
    exact ⟨rfl, HB.out⟩
  | true =>
    go_enter Tryz.func153, Tryz.ntmps153
    go_upto_region 1 with fail
    rw [HW.out]
    go_wp2_with fail
    refine (HS.out W).mono ?_
    rintro e w1 ⟨rfl, hb1⟩
    have H1 := Lib.hid (HB.out.trans (hb1.mono HB.out.size))
    clear hb1 HS x0 x1 x2 x3 x4 y0 y1 y2 y3 y4
    go_wp2_with fail
    go_ret
    exact ⟨by simp, H1.out⟩
set_option maxRecDepth 100000 in
set_option maxHeartbeats 4000000 in
theorem eqFuncIT_any (w : World) (v1 v2 : Value) (l1 l2 : List NE) (h1 : SlV w 5 eCSN v1 l1) (h2 : SlV w 5 eCSN v2 l2) (hn1 : l1.length ≤ 1000000) (hn2 : l2.length ≤ 1000000) (hd1 : ∀ e ∈ l1, e.2.data.size ≤ maxLen) (hd2 : ∀ e ∈ l2, e.2.data.size ≤ maxLen) :
    Calls Tryz.prog 154 #[v1, v2, .func (.func 153) #[] #[]] w fun e w' => e = .returned (.bool (sameN l1 l2)) ∧ Below w.heap.size w w' := by
  obtain ⟨A1, c1, rfl, _, _, s1⟩ := h1
  obtain ⟨A2, c2, rfl, _, _, s2⟩ := h2
  have hiff := sameN_iff l1 l2
  obtain ⟨R, hR⟩ : ∃ R, sameN l1 l2 = R := ⟨_, rfl⟩
  rw [hR] at hiff ⊢
  have HF := Lib.hid hiff
  have HS := Lib.hid (And.intro s1 s2)
  have HD := Lib.hid (And.intro hd1 hd2)
  obtain ⟨n, hn⟩ : ∃ n, l1.length = n := ⟨_, rfl⟩
  obtain ⟨m, hm⟩ : ∃ m, l2.length = m := ⟨_, rfl⟩
  rw [hn] at hn1 ⊢
  rw [hm] at hn2 ⊢
  have HN := Lib.hid (And.intro hn hm)
  clear hiff s1 s2 hd1 hd2 hR hn hm
  by_cases hnm : n = m
  · subst hnm
    go_enter Tryz.func154, Tryz.ntmps154
    go_wp2_with fail
    go_loopw [17] (fun iv wr => ∃ i : Nat, i ≤ n ∧ iv = .int .i64 i ∧ (∀ j (h1 : j < l1.length) (h2 : j < l2.length), j < i → alikeN l1[j] l2[j] = true) ∧ Below w.heap.size w wr) (fun iv _ => n - (intOf iv).toNat)
    case atStart => exact ⟨0, Nat.zero_le _, rfl, fun j _ _ h => absurd h (Nat.not_lt_zero _), Below.refl _ _⟩
    case round =>
      obtain ⟨i, hi, rfl, hall, hb⟩ := hrel
      have HA := Lib.hid hall
      clear hall
      by_cases hlt : i < n
      · have hi1 : i < l1.length := by have := HN.out.1; omega
        have hi2 : i < l2.length := by have := HN.out.2; omega
        obtain ⟨b1, o1, rfl, _, hcs⟩ := (HS.out.1.below hb (Nat.le_refl _)) (by omega)
        obtain ⟨b2, o2, rfl, _, hds⟩ := (HS.out.2.below hb (Nat.le_refl _)) (by omega)
        have x0 := hcs i hi1 0 (by omega)
        have x1 := hcs i hi1 1 (by omega)
        have x2 := hcs i hi1 2 (by omega)
        have x3 := hcs i hi1 3 (by omega)
        have x4 := hcs i hi1 4 (by omega)
        have y0 := hds i hi2 0 (by omega)
        have y1 := hds i hi2 1 (by omega)
        have y2 := hds i hi2 2 (by omega)
        have y3 := hds i hi2 3 (by omega)
        have y4 := hds i hi2 4 (by omega)
        simp only [eCSN, List.getElem?_cons_succ, List.getElem?_cons_zero, Nat.add_zero] at x0 x1 x2 x3 x4 y0 y1 y2 y3 y4
        clear hcs hds
        have HAL := Lib.hid (fun W => alike1_any W l1[i] l2[i] (HD.out.1 _ (List.getElem_mem hi1)) (HD.out.2 _ (List.getElem_mem hi2)))
        have hyes := fun (h : alikeN l1[i] l2[i] = true) j (h1 : j < l1.length) (h2 : j < l2.length) (hj : j < i + 1) => (show alikeN l1[j] l2[j] = true by
          by_cases e : j = i
          · subst e; exact h
          · exact HA.out j h1 h2 (by omega))
        have hno := fun (h : alikeN l1[i] l2[i] = false) => (show R = false by
          cases R with
          | false => rfl
          | true =>
            have := (HF.out.1 rfl).2 i hi1 hi2
            rw [this] at h
            cases h)
        have hii : (i : Int) < n := by omega
        have HY := Lib.hid (And.intro hyes hno)
        clear hyes hno HA
        obtain ⟨⟨p, a, b, c, d⟩, hx⟩ : ∃ x, l1[i] = x := ⟨_, rfl⟩
        obtain ⟨⟨q, a', b', c', d'⟩, hy⟩ : ∃ x, l2[i] = x := ⟨_, rfl⟩
        simp only [hx] at x0 x1 x2 x3 x4 HAL HY
        simp only [hy] at y0 y1 y2 y3 y4 HAL HY
        clear hx hy
        simp only [eCSN] at HAL
        generalize alikeN (p, ⟨a, b, c, d⟩) (q, ⟨a', b', c', d'⟩) = P at *
        have hba : Below wr.heap.size wr ((wr.alloc (.cells #[.string p, .int .i64 a, .int .i64 b, .int .u32 c, .string d] 70)).alloc (.cells #[.string q, .int .i64 a', .int .i64 b', .int .u32 c', .string d'] 70)) := ((Below.refl _ wr).alloc (Nat.le_refl _) _).alloc (by simp) _
        have HBA := Lib.hid (hb.trans (hba.mono hb.size))
        have hl1 : b1 < wr.heap.size := by assumption
        have hl2 : b2 < wr.heap.size := by assumption
        clear hb hba
        go_wp2_with fail
        refine (HAL.out _).mono ?_
        rintro e w2 ⟨rfl, hb2⟩
        have H2 := Lib.hid (HBA.out.trans (hb2.mono HBA.out.size))
        clear hb2 HAL x0 x1 x2 x3 x4 y0 y1 y2 y3 y4
        cases P with
        | true =>
          have HY2 := Lib.hid (HY.out.1 rfl)
          go_wp2_with fail
          go_roundw
          case rel => exact ⟨i + 1, by omega, by go_num, HY2.out, H2.out⟩
          case measure => simp [intOf]; omega
        | false =>
          have HY2 := Lib.hid (HY.out.2 rfl)
          go_wp2_with fail
          go_ret
          exact ⟨by rw [HY2.out]; rfl, H2.out⟩
      · obtain rfl : i = n := by omega
        have hR : R = true := HF.out.2 ⟨by rw [HN.out.1, HN.out.2], fun j h1 h2 => HA.out j h1 h2 (by have := HN.out.1; omega)⟩
        have H2 := Lib.hid (And.intro hR hb)
        clear hR hb
        go_wp2_with fail
        go_ret
        exact ⟨by rw [H2.out.1]; rfl, H2.out.2⟩
  · have hR : R = false := by
      cases R with
      | false => rfl
      | true =>
        have := (HF.out.1 rfl).1
        have h1 := HN.out.1
        have h2 := HN.out.2
        omega
    have HR := Lib.hid hR
    have hnm' : ¬ (n : Int) = m := by omega
    clear hR
    go_enter Tryz.func154, Tryz.ntmps154
    go_wp2_with fail
    go_ret
    exact ⟨by rw [HR.out]; rfl, Below.refl _ _⟩
end Go.Proofs.YtmpgmgjokliceaaGreatDoor
/- What an iterator asks of its caller: all below a place, and all cells but those of some types, lie as they lay. Over any program. -/
set_option linter.unusedVariables false
set_option linter.unusedSimpArgs false
namespace Sw
open Go Go.RowKit
/-- all below B0, and all cells that are of none of the types ts, lie as they lay -/
structure KeepR (B0 : Nat) (ts : List TypeId) (A B : World) : Prop where
  low : Below B0 A B
  row : ∀ g t cs, Blk A g t cs → ¬ t ∈ ts → Blk B g t cs
theorem KeepR.trans {B0 : Nat} {ts : List TypeId} {A B C : World} (h : KeepR B0 ts A B) (k : KeepR B0 ts B C) : KeepR B0 ts A C := ⟨h.low.trans k.low, fun g t cs hg ht => k.row g t cs (h.row g t cs hg ht) ht⟩
theorem KeepR.refl (B0 : Nat) (ts : List TypeId) (A : World) : KeepR B0 ts A A := ⟨Below.refl _ _, fun _ _ _ h _ => h⟩
theorem KeepR.below {B0 : Nat} {ts : List TypeId} {A B : World} (h : Below A.heap.size A B) (hB : B0 ≤ A.heap.size) : KeepR B0 ts A B := ⟨h.mono hB, fun g t cs hg _ => hg.below h hg.lt⟩
theorem keepR_b {B0 : Nat} {ts : List TypeId} {W : World} {l : Nat} {o : Obj} (o' : Obj) (hB : B0 ≤ l) (h : W.heap[l]? = some o) (ho : o.isCells = false) : KeepR B0 ts W (W.putObj l o') := by
  have hl : B0 ≤ W.heap.size := by have := (Array.getElem?_eq_some_iff.1 h).1; omega
  have hg := grownBy_putObj' W l o'
  refine ⟨(Below.refl B0 W).grown hg hl (fun k e => by cases e; exact hB), fun g t cs hBl _ => hBl.grown hg (fun e => ?_)⟩
  have e' : g = l := by simpa using e
  subst e'
  unfold Blk at hBl
  rw [h] at hBl
  cases hBl
  cases ho
theorem own_keptR {B0 : Nat} {ts : List TypeId} {A B : World} {base : Nat} {e : TypeId} {size n : Nat} {v : Value} {xs : List Value} (h : A.ownsRow base e size v n xs) (hk : KeepR B0 ts A B) (he : ¬ e ∈ ts) : B.ownsRow base e size v n xs := by
  rcases h.2 with ⟨rfl, h0⟩ | ⟨g, cap, cur, rfl, hb, hh, h1, h2, h3, h4⟩
  · exact ⟨h.1, .inl ⟨rfl, h0⟩⟩
  · exact ⟨h.1, .inr ⟨g, cap, cur, rfl, hb, hk.row _ _ _ hh he, h1, h2, h3, h4⟩⟩
end Sw
/- A tree lies as it lay: the small laws. -/
set_option linter.unusedVariables false
set_option linter.unusedSimpArgs false
namespace Go.Proofs.YtmpgmgjokliceaaGreatDoor
open Go Go.RowKit
open Sw
theorem TreeAt.keptDT {B0 : Nat} {ts : List TypeId} {W W' : World} {bt bm : Nat} {X : List NE} (h : TreeAt W bt bm X) (hk : KeepR B0 ts W W') (h1 : ¬ 142 ∈ ts) (h2 : ¬ 190 ∈ ts) (h3 : ¬ 197 ∈ ts) : TreeAt W' bt bm X := by
  refine ⟨hk.row _ _ _ h.box h1, ?_⟩
  obtain ⟨v, hb, ho⟩ := h.map.row
  exact ⟨⟨v, hk.row _ _ _ hb h2, own_keptR ho hk h3⟩, h.map.up, h.map.ok⟩
theorem TreeAt.ownDT {W W' : World} {row : Option Nat} {bt bm : Nat} {X : List NE} (h : TreeAt W bt bm X) (hg : W.grownBy W' row) (hr : ∀ r, row = some r → ∃ o : Obj, W.heap[r]? = some o ∧ o.isCells = false) : TreeAt W' bt bm X := by
  refine ⟨blk_ownF h.box hg hr, ?_⟩
  obtain ⟨v, hb, ho⟩ := h.map.row
  exact ⟨⟨v, blk_ownF hb hg hr, own_ownF ho hg hr⟩, h.map.up, h.map.ok⟩
end Go.Proofs.YtmpgmgjokliceaaGreatDoor
/- The maker of a plan, and what is done at a path. -/
set_option linter.unusedVariables false
set_option linter.unusedSimpArgs false
namespace Go.Proofs.YtmpgmgjokliceaaGreatDoor
open Go Go.RowKit
open Sw
/-- a step with its items' slice, as cells -/
def eSt (s : StepP × Value) : List Value := [.string s.1.path, .int .i64 s.1.node.kind, .int .i64 s.1.node.mode, .int .u32 s.1.node.time, .string s.1.node.data, .bool s.1.graft, s.2]
theorem eSt_len (s : StepP × Value) : (eSt s).length = 7 := rfl
theorem infoSt : (Tryz.prog.info? 40).map (fun i => (i.zero, i.size, i.bytes)) = some (some (.agg #[.string ⟨#[]⟩, .int .i64 0, .int .i64 0, .int .u32 0, .string ⟨#[]⟩, .bool false, .slice none 0 0]), 7, 88) := by kernel_rfl
def tsP : List TypeId := [40, 76]
/-- the maker with some steps -/
structure MkrAt (base gm bt bm bt2 bm2 : Nat) (tv : Value) (tops : List ByteArray) (xs ys : List NE) (l : List (StepP × Value)) (V : World) : Prop where
  box : ∃ o, Blk V gm 76 #[.pointer (some ⟨bt, 0, none⟩), .pointer (some ⟨bt2, 0, none⟩), tv, o] ∧ V.ownsRow base 40 7 o l.length (l.flatMap eSt)
  items : ∀ s ∈ l, Lies V 70 5 eCSN s.2 s.1.items
  tops : Lies V 9 1 sE tv tops
  t : TreeAt V bt bm xs
  t2 : TreeAt V bt2 bm2 ys
section
variable {base gm bt bm bt2 bm2 : Nat} {tv : Value} {tops : List ByteArray} {xs ys : List NE} {l : List (StepP × Value)} {V V' : World}
theorem MkrAt.below (h : MkrAt base gm bt bm bt2 bm2 tv tops xs ys l V) (hb : Below V.heap.size V V') : MkrAt base gm bt bm bt2 bm2 tv tops xs ys l V' := by
  obtain ⟨o, hB, ho⟩ := h.box
  exact ⟨⟨o, hB.below hb hB.lt, own_kept ho hb⟩, fun s hs => (h.items s hs).below hb, h.tops.below hb, h.t.below hb, h.t2.below hb⟩
theorem MkrAt.own {row : Option Nat} (h : MkrAt base gm bt bm bt2 bm2 tv tops xs ys l V) (hg : V.grownBy V' row) (hr : ∀ r, row = some r → ∃ o : Obj, V.heap[r]? = some o ∧ o.isCells = false) : MkrAt base gm bt bm bt2 bm2 tv tops xs ys l V' := by
  obtain ⟨o, hB, ho⟩ := h.box
  exact ⟨⟨o, blk_ownF hB hg hr, own_ownF ho hg hr⟩, fun s hs => (h.items s hs).ownF hg hr, h.tops.ownF hg hr, h.t.ownDT hg hr, h.t2.ownDT hg hr⟩
/-- what an addition keeps -/
structure AddK (base : Nat) (V V' : World) : Prop where
  keeps : KeepsOthers V V'
  kr : KeepR base tsP V V'
theorem AddK.below (hb : Below V.heap.size V V') (hB : base ≤ V.heap.size) : AddK base V V' := ⟨keeps_belowF hb, KeepR.below hb hB⟩
theorem AddK.trans {A B C : World} (h1 : AddK base A B) (h2 : AddK base B C) : AddK base A C := ⟨h1.keeps.trans h2.keeps, h1.kr.trans h2.kr⟩
theorem _root_.Sw.Lies.keptR {te : TypeId} {size : Nat} {α : Type} {E : α → List Value} {v : Value} {m : List α} {ts : List TypeId} (h : Lies V te size E v m) (hk : KeepR base ts V V') (ht : ¬ te ∈ ts) : Lies V' te size E v m :=
  h.kept fun g cur _ hB => by
    have h2 := hk.row g te cur hB ht
    unfold Blk at h2 hB
    rw [h2, hB]
/-- a step is added: the append's world -/
theorem MkrAt.add (h : MkrAt base gm bt bm bt2 bm2 tv tops xs ys l V) (hgm : base ≤ gm) {V1 U X : World} (hb : Below V.heap.size V V1) {o : Value} (hB : Blk V1 gm 76 #[.pointer (some ⟨bt, 0, none⟩), .pointer (some ⟨bt2, 0, none⟩), tv, o]) (ho : V1.ownsRow base 40 7 o l.length (l.flatMap eSt))
    (hb0 : Below V1.heap.size V1 U) (hgr : U.grownBy X o.ownBlock) {gN cap n : Nat} (hnl : l.length = n) {s : StepP × Value} (hown : X.ownsRow base 40 7 (.slice (some ⟨gN, 0, none⟩) (n + 1) cap) (n + 1) (l.flatMap eSt ++ eSt s)) (hs : Lies V1 70 5 eCSN s.2 s.1.items) :
    MkrAt base gm bt bm bt2 bm2 tv tops xs ys (l ++ [s]) (X.setCell ⟨gm, 3, none⟩ (.slice (some ⟨gN, 0, none⟩) (n + 1) cap)) ∧ AddK base V (X.setCell ⟨gm, 3, none⟩ (.slice (some ⟨gN, 0, none⟩) (n + 1) cap)) := by
  subst hnl
  have h1 := h.below hb
  have hB0 : base ≤ V.heap.size := by obtain ⟨o, hB', _⟩ := h.box; exact Nat.le_trans hgm (Nat.le_of_lt hB'.lt)
  have hB1 : base ≤ V1.heap.size := Nat.le_trans hB0 hb.size
  have hoU := own_kept ho hb0
  have hBU := hB.below hb0 hB.lt
  have hBX : Blk X gm 76 #[.pointer (some ⟨bt, 0, none⟩), .pointer (some ⟨bt2, 0, none⟩), tv, o] := hBU.grown hgr (fun e => own_ne_blk hoU hBU (by decide) e.symm)
  have hgX : X.grownBy (X.setCell ⟨gm, 3, none⟩ (.slice (some ⟨gN, 0, none⟩) (l.length + 1) cap)) (some gm) := grown_put (grown_refl X (some gm)) 3 _
  have hkX : KeepR base tsP V1 (X.setCell ⟨gm, 3, none⟩ (.slice (some ⟨gN, 0, none⟩) (l.length + 1) cap)) := by
    refine ⟨((hb0.mono hB1).grown hgr (Nat.le_trans hB1 hb0.size) (fun k hk => (hoU.lt k hk).1)).grown hgX (Nat.le_trans (Nat.le_trans hB1 hb0.size) hgr.size) (fun k hk => by cases hk; exact hgm), fun g t cs hg ht => ?_⟩
    have g1 := hg.below hb0 hg.lt
    have g2 := g1.grown hgr (fun e => own_ne_blk hoU g1 (fun e' => ht (by rw [← e']; decide)) e.symm)
    exact g2.grown hgX (fun e => by
      have e' : g = gm := by simpa using e
      subst e'
      unfold Blk at g2 hBX
      rw [hBX] at g2
      injection g2 with g2
      injection g2 with _ g2
      exact ht (by rw [← g2]; decide))
  have hkO : KeepsOthers V1 (X.setCell ⟨gm, 3, none⟩ (.slice (some ⟨gN, 0, none⟩) (l.length + 1) cap)) := ((keeps_belowF hb0).trans (KeepsOthers.of_grownBy hgr (own_cells hoU))).trans (KeepsOthers.setCell _ _ _)
  refine ⟨⟨⟨_, hBX.put 3 _, ?_⟩, fun t ht => ?_, h1.tops.keptR hkX (by decide), h1.t.keptDT hkX (by decide) (by decide) (by decide), h1.t2.keptDT hkX (by decide) (by decide) (by decide)⟩, ⟨(keeps_belowF hb).trans hkO, (KeepR.below hb hB0).trans hkX⟩⟩
  · rw [List.length_append, List.flatMap_append]
    have := World.ownsRow.kept hown hgX (.inr (own_ne_blk hown hBX (by decide)))
    simpa using this
  · rcases List.mem_append.1 ht with h | h
    · exact (h1.items t h).keptR hkX (by decide)
    · have : t = s := by simpa using h
      subst this
      exact hs.keptR hkX (by decide)
end
end Go.Proofs.YtmpgmgjokliceaaGreatDoor
