/- Several texts, joined for the limit of sixty files; each one opens with its own comment. -/
import Derived.Test.YthnnnlbdbkdcaaaGreatDoorJoin4
import Derived.StillTail
import Derived.StillTactics
import Derived.Test.YthnnnlbdbkdcaaaGreatDoorJoin13
/- A region that draws its order, walked in an order of one's own: an operation that yields the same in all worlds of a class may go first; any other one must be the only one that is ready. Over any program. -/
set_option linter.unusedVariables false
set_option linter.unusedSimpArgs false
namespace Sw
open Go
/-- Q where the region goes on, else nothing -/
def OnlyN (Q : Exit → Act → World → Prop) : Exit → Act → World → Prop
  | .normal, a, w => Q .normal a w
  | _, _, _ => False
theorem OnlyN.imp {Q : Exit → Act → World → Prop} : ∀ (e : Exit) (a : Act) (w : World), OnlyN Q e a w → Q e a w := fun e a w h => by
  cases e <;> first | exact h | exact (h : False).elim
theorem OnlyN.out {Q : Exit → Act → World → Prop} : ¬ LetsOut (OnlyN Q) := fun ⟨_, _, h⟩ => h
section
variable {P : Program} {ops : Array Oper} {md : Region.Mode} {Q : Exit → Act → World → Prop} {C : World → Prop}
def anyC (P : Program) (md : Region.Mode) (ops : Array Oper) (C : World → Prop) (Q : Exit → Act → World → Prop) : Nat → Array Bool → Act → World → Prop
  | 0, listed, a, w => C w ∧ Region.ready md ops listed = [] ∧ Q .normal a w
  | f + 1, listed, a, w => C w ∧ Region.ready md ops listed ≠ [] ∧ ∀ i ∈ Region.ready md ops listed, wpOp P ops (OnlyN Q) i (anyC P md ops C Q f (listed.setIfInBounds i true)) a w
theorem anyC_C : ∀ {f : Nat} {listed : Array Bool} {a : Act} {w : World}, anyC P md ops C Q f listed a w → C w
  | 0, _, _, _, h => h.1
  | _ + 1, _, _, _, h => h.1
theorem wpAny_of_anyC : ∀ (f : Nat) (listed : Array Bool) (a : Act) (w : World), anyC P md ops C Q f listed a w → wpAny P md ops (OnlyN Q) f listed a w
  | 0, _, _, _, h => h.2
  | f + 1, listed, a, w, h => ⟨fun h0 => absurd h0 h.2.1, fun i hi => wpOp_mono (fun a w => wpAny_of_anyC f _ a w) (h.2.2 i hi)⟩
theorem upon_put {oj : Oper} {K K' : Act → World → Prop} {a b : Act} (hK : ∀ ds u w', K (({ b with defers := ds ++ b.defers } : Act).put oj.dst u) w' → K' (({ a with defers := ds ++ a.defers } : Act).put oj.dst u) w') : ∀ r : Result Next, oj.upon P b K (OnlyN Q) r → oj.upon P a K' (OnlyN Q) r := fun r h => by
  have h0 : ∀ u w', K (b.put oj.dst u) w' → K' (a.put oj.dst u) w' := fun u w' => hK [] u w'
  cases r with
  | ok n w' =>
    cases n <;> simp only [Oper.upon] at h ⊢
    case value u => exact h0 u w' h
    case skip => exact h0 _ w' h
    case defer d => exact hK [d] _ w' h
    case enter f args => exact Calls.mono h (fun e w'' he => by cases e <;> first | exact h0 _ _ he | exact he)
    case row row args => exact Rows.mono h (fun v w'' he => h0 _ _ he)
  | halt x w' => cases x <;> simp only [Oper.upon] at h ⊢ <;> exact h
theorem wpOp_put {j : Nat} {oi oj : Oper} {v : Value} {a : Act} {w : World} (hj : ops[j]? = some oj) (hap : oi.apart ops oj = true) (hsj : ∀ cs b, oj.op ≠ .select cs b)
    {K K' : Act → World → Prop} (hK : ∀ ds u w', K ((({ a with defers := ds ++ a.defers } : Act).put oj.dst u).put oi.dst v) w' → K' (({ a with defers := ds ++ a.defers } : Act).put oj.dst u) w')
    (h : wpOp P ops (OnlyN Q) j K (a.put oi.dst v) w) : wpOp P ops (OnlyN Q) j K' a w := by
  obtain ⟨h1, h2, h3⟩ := Oper.apart_spec hap
  unfold wpOp at *
  simp only [hj] at *
  rw [wanted_put oj a oi.dst v h1] at h
  have hpd : ∀ (ds : List Deferred) (b : Act) (x : Option Tmp) (u : Value), ({ b.put x u with defers := ds } : Act) = ({ b with defers := ds } : Act).put x u := fun ds b x u => by cases x <;> rfl
  have hdd : ∀ (b : Act) (x : Option Tmp) (u : Value), (b.put x u).defers = b.defers := fun b x u => by cases x <;> rfl
  split
  · rename_i hw
    rw [if_pos hw] at h
    rcases h with h | h
    · left
      unfold Oper.wp at *
      rw [execOp_put oj hsj a oi.dst v h1] at h
      refine upon_put (fun ds u w' hk => hK ds u w' ?_) _ h
      rw [hpd, hdd] at hk
      rw [Act.put_comm _ v u h2] at hk
      exact hk
    · exact absurd h.2 OnlyN.out
  · rename_i hw
    rw [if_neg hw] at h
    refine hK [] undef w ?_
    rw [← Act.put_comm _ v undef h2]
    exact h
theorem anyC_first {i : Nat} {oi : Oper} {v : Value} (hi : ops[i]? = some oi) (hsel : ∀ (j : Nat) (o : Oper) cs b, ops[j]? = some o → o.op ≠ .select cs b) :
    ∀ (f : Nat) (listed : Array Bool) (a : Act) (w : World),
      (∀ j oj, ops[j]? = some oj → j ≠ i → listed.getD j true = false → (∀ e ∈ oj.after, Region.binds md e = true → e.on ≠ i) → oi.apart ops oj = true) →
      i ∈ Region.ready md ops listed → C w → (∀ W, C W → ∃ v', YieldsAt P ops W oi v' a ∧ a.put oi.dst v' = a.put oi.dst v) →
      anyC P md ops C Q f (listed.setIfInBounds i true) (a.put oi.dst v) w → anyC P md ops C Q (f + 1) listed a w := by
  intro f
  induction f with
  | zero =>
    intro listed a w _ hr hC hy H
    refine ⟨hC, fun h => (by rw [h] at hr; cases hr), fun j hj => ?_⟩
    by_cases hji : j = i
    · subst hji
      obtain ⟨v', hy1, hy2⟩ := hy w hC
      exact wpOp_of_stOp (fun a' h' => h') (hy1.stOp (K := fun a' => anyC P md ops C Q 0 (listed.setIfInBounds j true) a' w) hi (by rw [hy2]; exact H))
    · have := ready_mono hj hji
      rw [H.2.1] at this
      cases this
  | succ f ih =>
    intro listed a w hfree hr hC hy H
    have hun := (mem_ready.1 hr).1
    refine ⟨hC, fun h => (by rw [h] at hr; cases hr), fun j hj => ?_⟩
    by_cases hji : j = i
    · subst hji
      obtain ⟨v', hy1, hy2⟩ := hy w hC
      exact wpOp_of_stOp (fun a' h' => h') (hy1.stOp (K := fun a' => anyC P md ops C Q (f + 1) (listed.setIfInBounds j true) a' w) hi (by rw [hy2]; exact H))
    · have h1 := H.2.2 j (ready_mono hj hji)
      obtain ⟨hjun, oj, hoj, hall⟩ := mem_ready.1 hj
      have hnot : ∀ e ∈ oj.after, Region.binds md e = true → e.on ≠ i := fun e he hb heq => by
        have h1 := hall e he hb
        rw [heq, getD_both hun] at h1
        cases h1
      have hap := hfree j oj hoj hji hjun hnot
      have hap3 := (Oper.apart_spec hap)
      refine wpOp_put hoj hap (fun cs b => hsel j oj cs b hoj) (fun ds u w' hk => ?_) h1
      refine ih (listed.setIfInBounds j true) _ w' (fun k ok hk' hki hunk hno => hfree k ok hk' hki (by
        by_cases hjk : j = k
        · subst hjk; exact hjun
        · rw [getD_set_ne true hjk] at hunk; exact hunk) hno) (ready_mono hr (Ne.symm hji)) (anyC_C hk) (fun W hW => ?_) (by rw [Array.setIfInBounds_comm _ _ hji]; exact hk)
      obtain ⟨v', hy1, hy2⟩ := hy W hW
      refine ⟨v', hy1.of_same ?_ ?_, ?_⟩
      · exact execOp_put oi (fun cs b => hsel i oi cs b hi) ({ a with defers := ds ++ a.defers } : Act) oj.dst u hap3.2.2
      · exact wanted_put oi ({ a with defers := ds ++ a.defers } : Act) oj.dst u hap3.2.2
      · have hb : ∀ x, ({ a with defers := ds ++ a.defers } : Act).put oi.dst x = { a.put oi.dst x with defers := ds ++ a.defers } := fun x => by cases oi.dst <;> rfl
        rw [← Act.put_comm _ v' u hap3.2.1, ← Act.put_comm _ v u hap3.2.1, hb, hb, hy2]
/-- the walk in an order of one's own: 'true': yields the same in the class; 'false': forced -/
def mixC (P : Program) (ops : Array Oper) (C : World → Prop) (Q : Exit → Act → World → Prop) : List (Oper × Bool) → Act → World → Prop
  | [], a, w => C w ∧ Q .normal a w
  | (o, true) :: r, a, w => ∃ A1, (∀ m : Held C, wpStill P ops (HeldW m) (fun a' => a' = A1) [o] a) ∧ C w ∧ mixC P ops C Q r A1 w
  | (o, false) :: r, a, w => C w ∧ wpList P ops (OnlyN fun _ a' w' => mixC P ops C Q r a' w') [o] a w
def permB (md : Region.Mode) (ops : Array Oper) : List (Nat × Bool) → Array Bool → Bool
  | [], listed => (Region.ready md ops listed).isEmpty
  | (i, true) :: r, listed => (Region.ready md ops listed).contains i && Region.free md ops listed i && permB md ops r (listed.setIfInBounds i true)
  | (i, false) :: r, listed => decide (Region.ready md ops listed = [i]) && permB md ops r (listed.setIfInBounds i true)
def pickP (ops : Array Oper) (perm : List (Nat × Bool)) : List (Oper × Bool) := perm.filterMap fun p => (ops[p.1]?).map fun o => (o, p.2)
theorem anyC_of_mix (hs : Region.noSelect ops = true) : ∀ (perm : List (Nat × Bool)) (listed : Array Bool) (a : Act) (w : World), permB md ops perm listed = true → mixC P ops C Q (pickP ops perm) a w → anyC P md ops C Q perm.length listed a w
  | [], listed, a, w, hB, h => ⟨h.1, by simpa [permB] using hB, h.2⟩
  | (i, true) :: r, listed, a, w, hB, h => by
    simp only [permB, Bool.and_eq_true] at hB
    obtain ⟨⟨hr, hf⟩, hB'⟩ := hB
    have hr' : i ∈ Region.ready md ops listed := by simpa using hr
    obtain ⟨_, o, ho, _⟩ := mem_ready.1 hr'
    have e : pickP ops ((i, true) :: r) = (o, true) :: pickP ops r := by unfold pickP; simp [ho]
    rw [e] at h
    obtain ⟨A1, hv, hC, hm⟩ := h
    have hst : ∀ W, C W → ∃ v', YieldsAt P ops W o v' a ∧ a.put o.dst v' = A1 := fun W hW => by
      have h1 : stOp P ops W i (fun a' => a' = A1) a := by unfold stOp; simp only [ho]; exact hv ⟨W, hW⟩
      exact yieldsAt_of_stOp ho h1
    obtain ⟨v, _, rfl⟩ := hst w hC
    exact anyC_first ho (Region.noSelect_spec hs) r.length listed a w (Region.free_spec ho hf) hr' hC hst (anyC_of_mix hs r _ _ w hB' hm)
  | (i, false) :: r, listed, a, w, hB, h => by
    simp only [permB, Bool.and_eq_true, decide_eq_true_eq] at hB
    obtain ⟨hr, hB'⟩ := hB
    have hr' : i ∈ Region.ready md ops listed := by rw [hr]; simp
    obtain ⟨_, o, ho, _⟩ := mem_ready.1 hr'
    have e : pickP ops ((i, false) :: r) = (o, false) :: pickP ops r := by unfold pickP; simp [ho]
    rw [e] at h
    obtain ⟨hC, hw⟩ := h
    refine ⟨hC, by rw [hr]; simp, fun j hj => ?_⟩
    rw [hr] at hj
    obtain rfl : j = i := by simpa using hj
    have hgo : ∀ (a' : Act) (w' : World), mixC P ops C Q (pickP ops r) a' w' → anyC P md ops C Q r.length (listed.setIfInBounds j true) a' w' := fun a' w' hm => anyC_of_mix hs r _ a' w' hB' hm
    unfold wpOp
    simp only [ho]
    simp only [wpList] at hw
    split
    · rename_i hwt
      rw [if_pos hwt] at hw
      rcases hw with hw | hw
      · left
        unfold Oper.wp at *
        generalize (execOp a.eval o).run P w = res at *
        cases res with
        | ok n w' =>
          cases n <;> simp only [Oper.upon] at hw ⊢
          case value u => exact hgo _ _ hw
          case skip => exact hgo _ _ hw
          case defer d => exact hgo _ _ hw
          case enter f args => exact Calls.mono hw (fun e w'' he => by
            cases e
            · exact hgo _ _ he
            · exact he
            · exact absurd he OnlyN.out)
          case row row args => exact Rows.mono hw (fun v w'' he => hgo _ _ he)
        | halt x w' => cases x <;> simp only [Oper.upon] at hw ⊢ <;> exact hw
      · exact absurd hw.2 OnlyN.out
    · rename_i hwt
      rw [if_neg hwt] at hw
      exact hgo _ _ hw
end
theorem wp_region_mix {P : Program} (C : World → Prop) (perm : List (Nat × Bool)) {id : Nat} {Q : Exit → Act → World → Prop} {a : Act} {w : World} {l : List Oper} (hm : P.follows .mixedOrders = true)
    (hB : (Region.noSelect l.toArray && decide (perm.length = l.length) && permB .any l.toArray perm (Array.replicate l.length false)) = true)
    (h : mixC P l.toArray C Q (pickP l.toArray perm) a w.drew) : (Code.region id l.toArray true).wp P Q a w := by
  simp only [Bool.and_eq_true, decide_eq_true_eq] at hB
  obtain ⟨⟨hs, hl⟩, hp⟩ := hB
  refine Code.wp_mono OnlyN.imp (wp_region_any hm (wpAny_of_anyC (C := C) _ _ _ _ ?_))
  have := anyC_of_mix (C := C) (Q := Q) hs perm (Array.replicate l.length false) a w.drew hp h
  rw [hl] at this
  simpa using this
theorem mix_nil {P : Program} {ops : Array Oper} {C : World → Prop} {Q : Exit → Act → World → Prop} {a : Act} {w : World} (hC : C w) (h : Q .normal a w) : mixC P ops C Q [] a w := ⟨hC, h⟩
theorem still_of_quiet {P : Program} {ops : Array Oper} {o : Oper} {a A1 : Act} {W : World} (h : wpQuiet P ops (fun w' => ∃ _ : Unit, w' = W) (fun a' => a' = A1) [o] a) : wpStill P ops W (fun a' => a' = A1) [o] a := by
  simp only [wpQuiet, wpStill] at *
  split
  · rename_i hw
    rw [if_pos hw] at h
    obtain ⟨v, h1, h2⟩ := h
    have h3 := h1 W ⟨(), rfl⟩
    unfold Oper.quietAt at h3
    unfold Oper.still
    generalize (execOp a.eval o).run P W = r at *
    cases r with
    | ok n w' =>
      cases n <;> simp only [Oper.quietUpon] at h3 <;> simp only [Oper.stillUpon]
      case value u => exact ⟨h3.1, by rw [h3.2]; exact h2⟩
      case skip => exact ⟨h3.1, by rw [← h3.2]; exact h2⟩
      case enter f args => exact ⟨h3.1, v, h3.2.mono fun e w'' he => ⟨he.1, by obtain ⟨_, h⟩ := he.2; exact h⟩, h2⟩
    | halt x w' => simp only [Oper.quietUpon] at h3
  · rename_i hw
    rw [if_neg hw] at h
    exact h
theorem mix_first {P : Program} {ops : Array Oper} {C : World → Prop} {Q : Exit → Act → World → Prop} {o : Oper} {r : List (Oper × Bool)} {a : Act} {w : World}
    (h : ∃ A1, (∀ m : Held C, wpQuiet P ops (fun w' => ∃ _ : Unit, w' = HeldW m) (fun a' => a' = A1) [o] a) ∧ C w ∧ mixC P ops C Q r A1 w) : mixC P ops C Q ((o, true) :: r) a w := by
  obtain ⟨A1, h1, h2, h3⟩ := h
  exact ⟨A1, fun m => still_of_quiet (h1 m), h2, h3⟩
theorem mix_forced {P : Program} {ops : Array Oper} {C : World → Prop} {Q : Exit → Act → World → Prop} {o : Oper} {r : List (Oper × Bool)} {a : Act} {w : World} (hC : C w)
    (h : wpList P ops (OnlyN fun _ a' w' => mixC P ops C Q r a' w') [o] a w) : mixC P ops C Q ((o, false) :: r) a w := ⟨hC, h⟩
end Sw
/- TreePlays: laws on structs, and rows; what stands at the end. -/
set_option linter.unusedVariables false
set_option linter.unusedSimpArgs false
namespace Go.Proofs.YthnnnlbdbkdcaaaGreatDoor
open Go Go.RowKit
open Sw
theorem neq_node (d : ByteArray) (k m t : Int) (W : World) : (binOp .neq 30 (.agg #[.int .i64 k, .int .i64 m, .int .u32 t, .string d]) (.agg #[.int .i64 k, .int .i64 m, .int .u32 t, .string d])).run Tryz.prog W = .ok (.bool false) W := by
  simp [go_sem, Tryz.underlying30, Tryz.underlying3, Tryz.underlying28, Tryz.underlying9]
theorem bytesT_le : ∀ xs : List NE, (∀ e ∈ xs, e.2.data.size ≤ 500) → bytesT xs ≤ 500 * xs.length
  | [], _ => Nat.le_refl _
  | e :: xs, h => by
    have h1 := bytesT_le xs (fun a ha => h a (List.mem_cons_of_mem _ ha))
    have h2 := h e (List.mem_cons_self ..)
    have h3 : bytesT (e :: xs) = e.2.data.size + bytesT xs := by unfold bytesT; rw [List.map_cons, List.sum_cons]
    rw [h3, List.length_cons]
    omega
theorem bytesT_step (xs : List NE) (j : Nat) (h : j < xs.length) : bytesT (xs.take (j + 1)) = bytesT (xs.take j) + xs[j].2.data.size := by
  rw [List.take_succ_eq_append_getElem h, bytesT_app]
  unfold bytesT
  simp
theorem undT_step (p : ByteArray) (xs : List NE) (j : Nat) (h : j < xs.length) : undT p (xs.take (j + 1)) = undT p (xs.take j) ++ if awayT p xs[j] = true then [] else [xs[j]] := by
  unfold undT
  rw [List.take_succ_eq_append_getElem h, List.filter_append]
  congr 1
  cases h2 : awayT p xs[j] <;> simp [h2]
theorem undT_len (p : ByteArray) (xs : List NE) : (undT p xs).length ≤ xs.length := List.length_filter_le _ _
theorem slv_cutI {w : World} {size : Nat} {α : Type} {E : α → List Value} {A : Option Addr} {n c : Nat} {l : List α} (h : SlV w size E (.slice A n c) l) (j : Nat) (hj : j ≤ n) : SlV w size E (.slice A j c) (l.take j) := by
  obtain ⟨A', c', hv, h1, h2, h3⟩ := h
  obtain ⟨rfl, rfl, rfl⟩ : A = A' ∧ n = l.length ∧ c = c' := by injection hv with e1 e2 e3; exact ⟨e1, e2, e3⟩
  exact ⟨A, c, by rw [List.length_take, Nat.min_eq_left hj], by rw [List.length_take]; omega, h2, h3.take j⟩
/-- behind some words of the tree: the row in the box holds them -/
def GtI (Tg M : Nat) (pre : List NE) (W : World) : Prop := (pre.length ≤ M ∧ Tg + 1 ≤ W.heap.size) ∧ ∃ o, Blk W Tg 22 #[o] ∧ OwnIt W Tg o pre
def GtX (Tg M : Nat) (c : Code) (pre : List NE) (W : World) : Prop := ∃ (pre' : List NE) (x : NE), pre = pre' ++ [x] ∧ pre'.length = M ∧ c = .exit 4 ∧ Tg + 1 ≤ W.heap.size ∧ ∃ o, Blk W Tg 22 #[o] ∧ OwnIt W Tg o pre'
theorem GtI.own (Tg M : Nat) : Own (GtI Tg M) := fun _ A B row hs hg hr => ⟨⟨hs.1.1, Nat.le_trans hs.1.2 hg.size⟩, by obtain ⟨o, h1, h2⟩ := hs.2; exact ⟨o, blk_ownF h1 hg hr, own_ownF h2 hg hr⟩⟩
theorem GtX.own (Tg M : Nat) (c : Code) : Own (GtX Tg M c) := fun _ A B row hs hg hr => by
  obtain ⟨p', x, e1, e2, e3, e4, o, h1, h2⟩ := hs
  exact ⟨p', x, e1, e2, e3, Nat.le_trans e4 hg.size, o, blk_ownF h1 hg hr, own_ownF h2 hg hr⟩
theorem GtI.below {Tg M : Nat} {pre : List NE} {A B : World} (hs : GtI Tg M pre A) (hb : Below A.heap.size A B) : GtI Tg M pre B := ⟨⟨hs.1.1, Nat.le_trans hs.1.2 hb.size⟩, by obtain ⟨o, h1, h2⟩ := hs.2; exact ⟨o, h1.below hb h1.lt, h2.below hb⟩⟩
/-- what stands behind the range -/
structure PlZ (w : World) (bt bm Tg D : Nat) (mo : Value) (xv uv gv : Value) (xs us gs : List NE) (W : World) : Prop where
  pl : PlM w w.heap.size bt bm mo xv xs xs W
  und : OwnIt W w.heap.size uv us
  box : Blk W Tg 22 #[gv]
  got : OwnIt W w.heap.size gv gs
  dfr : W.heap[D]? = some (Obj.deferred (some []))
theorem PlZ.below {w : World} {bt bm Tg D : Nat} {mo xv uv gv : Value} {xs us gs : List NE} {W W' : World} (h : PlZ w bt bm Tg D mo xv uv gv xs us gs W) (hb : Below W.heap.size W W') : PlZ w bt bm Tg D mo xv uv gv xs us gs W' :=
  ⟨h.pl.below hb, h.und.below hb, h.box.below hb h.box.lt, h.got.below hb, by rw [hb.block D (Array.getElem?_eq_some_iff.1 h.dfr).1]; exact h.dfr⟩
end Go.Proofs.YthnnnlbdbkdcaaaGreatDoor
/- The main walk of TreePlays. -/
set_option linter.unusedVariables false
set_option linter.unusedSimpArgs false
namespace Go.Proofs.YthnnnlbdbkdcaaaGreatDoor
open Go Go.RowKit Go.Shelf
open Sw
attribute [local go_sem] Oper.semAt_some
set_option maxRecDepth 100000 in
set_option maxHeartbeats 16000000 in
theorem treePlays_main (w : World) (A : Option Addr) (n c : Nat) (l : List NE) (p : ByteArray) (mo : Nat) (hl : l.length = n) (hnc : n ≤ c) (hcm : c ≤ maxLen) (hsl : SlOf w 5 eCSN A l) (hin : ∀ e ∈ l, NEIn e) (hp : p.size ≤ maxLen) (hm : mo < 18446744073709551616) :
    Calls Tryz.prog 3 #[.slice A n c, .string p, .int .u64 mo] w fun e w' => e = .returned (.bool true) ∧ Below w.heap.size w w' := by
  have hslv : SlV w 5 eCSN (.slice A n c) l := ⟨A, c, by rw [hl], by rw [hl]; exact hnc, hcm, hsl⟩
  unfold maxLen at hcm hp
  obtain ⟨k, hk, hmin⟩ : ∃ k : Nat, k ≤ p.size ∧ min (p.size : Int) 100 = k := ⟨min p.size 100, by omega, by omega⟩
  have hkI : (k : Int) ≤ p.size := by omega
  have hpz : (p.extract 0 k).size ≤ 100 := by rw [ByteArray.size_extract]; omega
  have hB0 := (Below.refl w.heap.size w).alloc (Nat.le_refl _) (.cells #[.int .u64 mo] 23)
  have hbx := Blk.new w 23 #[.int .u64 mo]
  have hslv0 := hslv.below hB0 (Nat.le_refl _)
  have HLT := Lib.hid (light16_any _ _ l hslv0 (fun e he => ⟨(hin e he).1, (hin e he).2.size⟩))
  have HLV := Lib.hid (fun W => lives16 W)
  have HNW := Lib.hid (fun W => treeNew_any W)
  have HIN := Lib.hid (And.intro hl (And.intro hin hsl))
  obtain ⟨W0, hW0⟩ : ∃ W0, w.alloc (.cells #[.int .u64 mo] 23) = W0 := ⟨_, rfl⟩
  rw [hW0] at hB0 hbx HLT
  obtain ⟨P, hP⟩ : ∃ P, p.extract 0 k = P := ⟨_, rfl⟩
  rw [hP] at hpz
  have HB0 := Lib.hid (And.intro hB0 hbx)
  have HW0 := Lib.hid (And.intro hW0 hP)
  clear hslv hslv0 hB0 hbx hl hin hsl hW0 hP
  refine callsIn_wide.1 (?_ : CallsIn Fence.wide 9 _ _ _ _ _)
  refine callsIn_of_wp_marks Tryz.func3 rfl trivial ?_ rfl
  simp only [Tryz.ntmps3, List.size_toArray, List.length_cons, List.length_nil, Nat.reduceAdd, Nat.reduceSub, Array.replicate_succ, Array.replicate_zero, List.push_toArray, List.append_toArray, List.nil_append, List.cons_append]
  refine wpIn_wide.2 ?_
  go_wp2_with fail
  rw [HW0.out.1, HW0.out.2]
  refine HLT.out.mono ?_
  rintro e w1 ⟨R, rfl, hR, hb1⟩
  have HR := Lib.hid hR; clear hR
  have HB1 := Lib.hid (And.intro (HB0.out.1.trans (hb1.mono HB0.out.1.size)) (HB0.out.2.below hb1 HB0.out.2.lt)); clear hb1
  cases R with
  | false =>
    clear hmin HW0
    go_wp2_with fail
    refine (HLV.out _).mono ?_
    rintro e w2 ⟨rfl, hb2⟩
    have HZ := Lib.hid (HB1.out.1.trans (hb2.mono HB1.out.1.size)); clear hb2
    go_wp2_with fail
    exact ⟨_, results_tmp rfl _ _ _, rfl, HZ.out⟩
  | true =>
    have hn30 : n ≤ 30 := by have := (HR.out rfl).1; rw [HIN.out.1] at this; exact this
    have HSM := Lib.hid (HR.out rfl).2
    clear hmin HW0 HR
    go_wp2_with fail
    refine (HNW.out _).mono ?_
    rintro e w2 ⟨bt, bm, rfl, ht, hbt, hbm, hb2⟩
    have hPL : PlM w w.heap.size bt bm (.int .u64 mo) (.slice none 0 0) [] [] w2 := ⟨ht, World.ownsRow_nil _ _ _ _, HB1.out.2.below hb2 HB1.out.2.lt, by have := HB1.out.1.size; omega, HB1.out.1.trans (hb2.mono HB1.out.1.size)⟩
    have HPL := Lib.hid hPL; clear hPL ht hbt hbm hb2 HB1 HB0 HNW HLT
    go_wp2_with fail
    go_loopw [8, 33] (fun xv iv wr => ∃ (i : Nat) (xs : List NE), i ≤ n ∧ iv = .int .i64 i ∧ Fit xs i ∧ PlM w w.heap.size bt bm (.int .u64 mo) xv xs xs wr) (fun _ iv _ => n - (intOf iv).toNat)
    case atStart => exact ⟨0, [], Nat.zero_le _, rfl, Fit.nil 0, HPL.out⟩
    case round =>
      obtain ⟨i, xs, hi, rfl, hf, hpl⟩ := hrel
      obtain ⟨Ax, cx, rfl, hxc1, hxc2, _⟩ := SlV_of_any hpl.row
      unfold maxLen at hxc2
      have HP := Lib.hid hpl; clear hpl
      have HF := Lib.hid hf; clear hf
      by_cases hlt : i < n
      · have hiL : i < l.length := by have := HIN.out.1; omega
        obtain ⟨b, off, rfl, hbb, hcs⟩ := (HIN.out.2.2.below HP.out.old (Nat.le_refl _)) (by omega)
        have c0 := hcs i hiL 0 (by omega)
        have c1 := hcs i hiL 1 (by omega)
        have c2 := hcs i hiL 2 (by omega)
        have c3' := hcs i hiL 3 (by omega)
        have c4 := hcs i hiL 4 (by omega)
        simp only [eCSN, List.getElem?_cons_succ, List.getElem?_cons_zero, Nat.add_zero] at c0 c1 c2 c3' c4
        clear hcs
        have hi1 : (i : Int) < n := by omega
        have hxs := HSM.out l[i] (List.getElem_mem hiL)
        have hxi := (HIN.out.2.1 l[i] (List.getElem_mem hiL)).2
        obtain ⟨⟨q, kd, md, tm, dt⟩, hx⟩ : ∃ x, l[i] = x := ⟨_, rfl⟩
        simp only [hx] at c0 c1 c2 c3' c4 hxs hxi
        clear hx
        obtain ⟨hq, hd⟩ := hxs
        simp only at hq hd
        have hba := (Below.refl wr.heap.size wr).alloc (Nat.le_refl _) (.cells #[.string q, .int .i64 kd, .int .i64 md, .int .u32 tm, .string dt] 32)
        have hbN := Blk.new wr 32 #[.string q, .int .i64 kd, .int .i64 md, .int .u32 tm, .string dt]
        obtain ⟨W1, hW1⟩ : ∃ W1, wr.alloc (.cells #[.string q, .int .i64 kd, .int .i64 md, .int .u32 tm, .string dt] 32) = W1 := ⟨_, rfl⟩
        obtain ⟨N, hN⟩ : ∃ N, wr.heap.size = N := ⟨_, rfl⟩
        rw [hW1] at hba hbN
        rw [hN] at hbN
        have hp1 := HP.out.below hba
        have H1 := Lib.hid (And.intro hp1 hbN); clear hp1 hba
        have x0 := hbN.cell 0
        have x1 := hbN.cell 1
        have x2 := hbN.cell 2
        have x3 := hbN.cell 3
        have x4 := hbN.cell 4
        simp at x0 x1 x2 x3 x4
        have HW1 := Lib.hid hW1; clear hW1 hbN
        have hik : i ≤ 30 := by omega
        by_cases hz : kd = 0 ∧ md = 0
        · -- it is dropped
          obtain ⟨rfl, rfl⟩ := hz
          have HOP := Lib.hid (plDrop_any W1 q H1.out.1 HF.out hik (by omega))
          have HRF := Lib.hid (fun W (h : PlM w w.heap.size bt bm (.int .u64 mo) (.slice Ax xs.length cx) xs (dropT xs q) W) => plRefDrop_any W q h HF.out hik)
          have HFZ := Lib.hid (HF.out.drop q)
          generalize whyDrop xs q = why at *
          generalize dropT xs q = zs at *
          obtain ⟨nx, hnx⟩ : ∃ nx, xs.length = nx := ⟨_, rfl⟩
          rw [hnx] at HRF HOP hxc1
          rw [hnx]
          clear hnx
          go_wp2_with fail
          rw [HW1.out]
          refine HOP.out.mono ?_
          rintro e w3 ⟨rfl, hp3, hg3⟩
          obtain ⟨u3, hu3, _⟩ := H1.out.1.tree.map.row
          have hbN3 := H1.out.2.grown hg3 (by simpa using Blk.other H1.out.2 hu3 (by decide))
          have z0 := hbN3.cell 0
          have z1 := hbN3.cell 1
          have z2 := hbN3.cell 2
          have z3 := hbN3.cell 3
          have z4 := hbN3.cell 4
          simp at z0 z1 z2 z3 z4
          have HRF3 := Lib.hid (HRF.out w3 hp3)
          have H3 := Lib.hid hbN3; clear hp3 hg3 hu3 hbN3 HRF HOP x0 x1 x2 x3 x4
          go_wp2_with fail
          refine HRF3.out.mono ?_
          rintro e w4 ⟨A4, j4, cc4, rfl, hj4, hp4, hb4⟩
          have hbN4 := H3.out.below hb4 H3.out.lt
          have H4 := Lib.hid (And.intro hp4 hj4); clear hp4 hj4 hb4 H3 HRF3 z0 z1 z2 z3 z4 H1
          have hlN := hbN4.lt
          have k0 : ∀ m : Held (Aft w4), (HeldW m).cell? ⟨N, 0, none⟩ = some (.string q) := fun m => (Aft.cell m hlN).trans (hbN4.cell 0)
          clear hbN4
          have HLEN := Lib.hid (fun m : Held (Aft w4) => by have := treeLen_any (HeldW m) bt bm zs (H4.out.1.below (HeldW_spec m)).tree; rw [← H4.out.2] at this; exact this)
          have HGET := Lib.hid (fun m : Held (Aft w4) => treeGet_any (HeldW m) bt bm zs q (H4.out.1.below (HeldW_spec m)).tree (by have := HFZ.out.len; omega) (by omega))
          have HREF := Lib.hid (fun m : Held (Aft w4) => by have := ref16Get_any (HeldW m) _ zs q (H4.out.1.below (HeldW_spec m)).row.slv; rw [refGetT_eq zs q HFZ.out.up] at this; exact this)
          generalize getT zs q = gn at *
          obtain ⟨gk, gm, gt, gd⟩ := gn
          simp only [Nd.c] at HGET HREF
          have hgn := neq_node gd gk gm gt
          haveI := Aft.some w4
          go_wp2_with fail
          refine wp_region_class (Aft w4) (by kernel_rfl) (by kernel_rfl) (Aft.start w4) ?_
          repeat (go_big_quiet_step (first | with_reducible exact held_same (HLEN.out _) | with_reducible exact held_below Aft.keep (HGET.out _) | with_reducible exact held_below Aft.keep (HREF.out _)))
          refine wpQuiet_nil ?_
          rintro _ ⟨nn, rfl⟩
          have HW := Lib.hid (H4.out.1.below (HeldW_spec nn))
          go_wp2_with fail
          go_roundw
          case rel => exact ⟨i + 1, zs, by omega, by go_num, HFZ.out, HW.out⟩
          case measure => simp [intOf]; omega
        · -- it is put
          have HOP := Lib.hid (plPut_any W1 q ⟨kd, md, tm, dt⟩ H1.out.1 HF.out hik (by omega) hxi)
          have HRF := Lib.hid (fun W (h : PlM w w.heap.size bt bm (.int .u64 mo) (.slice Ax xs.length cx) xs (putT xs q ⟨kd, md, tm, dt⟩) W) => plRefPut_any W q ⟨kd, md, tm, dt⟩ h HF.out hik (by omega) hxi)
          have HFZ := Lib.hid (HF.out.put q ⟨kd, md, tm, dt⟩ (by omega) hd)
          generalize mayT xs q ⟨kd, md, tm, dt⟩ = why at *
          generalize putT xs q ⟨kd, md, tm, dt⟩ = zs at *
          simp only [Nd.c] at HOP HRF
          obtain ⟨nx, hnx⟩ : ∃ nx, xs.length = nx := ⟨_, rfl⟩
          rw [hnx] at HRF HOP hxc1
          rw [hnx]
          clear hnx
          have hkz : (kd == 0 && md == 0) = false := by
            rw [Bool.and_eq_false_iff, beq_eq_false_iff_ne, beq_eq_false_iff_ne]
            rcases Decidable.em (kd = 0) with h | h
            · exact .inr (fun h2 => hz ⟨h, h2⟩)
            · exact .inl h
          clear hz
          rcases Decidable.em (kd = 0) with hk0 | hk0
          all_goals
            first | (have e0 : (kd == 0) = false := by rw [beq_eq_false_iff_ne]; exact hk0) | (have e0 : (kd == 0) = true := by rw [beq_iff_eq]; exact hk0)
            first | (have e1 : (md == 0) = false := by rw [e0] at hkz; simpa using hkz) | skip
            clear hk0 hkz
            go_wp2_with fail
            rw [HW1.out]
            refine HOP.out.mono ?_
            rintro e w3 ⟨rfl, hp3, hg3⟩
            obtain ⟨u3, hu3, _⟩ := H1.out.1.tree.map.row
            have hbN3 := H1.out.2.grown hg3 (by simpa using Blk.other H1.out.2 hu3 (by decide))
            have z0 := hbN3.cell 0
            have z1 := hbN3.cell 1
            have z2 := hbN3.cell 2
            have z3 := hbN3.cell 3
            have z4 := hbN3.cell 4
            simp at z0 z1 z2 z3 z4
            have HRF3 := Lib.hid (HRF.out w3 hp3)
            have H3 := Lib.hid hbN3; clear hp3 hg3 hu3 hbN3 HRF HOP x0 x1 x2 x3 x4
            go_wp2_with fail
            refine HRF3.out.mono ?_
            rintro e w4 ⟨A4, j4, cc4, rfl, hj4, hp4, hb4⟩
            have hbN4 := H3.out.below hb4 H3.out.lt
            have H4 := Lib.hid (And.intro hp4 hj4); clear hp4 hj4 hb4 H3 HRF3 z0 z1 z2 z3 z4 H1
            have hlN := hbN4.lt
            have k0 : ∀ m : Held (Aft w4), (HeldW m).cell? ⟨N, 0, none⟩ = some (.string q) := fun m => (Aft.cell m hlN).trans (hbN4.cell 0)
            clear hbN4
            have HLEN := Lib.hid (fun m : Held (Aft w4) => by have := treeLen_any (HeldW m) bt bm zs (H4.out.1.below (HeldW_spec m)).tree; rw [← H4.out.2] at this; exact this)
            have HGET := Lib.hid (fun m : Held (Aft w4) => treeGet_any (HeldW m) bt bm zs q (H4.out.1.below (HeldW_spec m)).tree (by have := HFZ.out.len; omega) (by omega))
            have HREF := Lib.hid (fun m : Held (Aft w4) => by have := ref16Get_any (HeldW m) _ zs q (H4.out.1.below (HeldW_spec m)).row.slv; rw [refGetT_eq zs q HFZ.out.up] at this; exact this)
            generalize getT zs q = gn at *
            obtain ⟨gk, gm, gt, gd⟩ := gn
            simp only [Nd.c] at HGET HREF
            have hgn := neq_node gd gk gm gt
            haveI := Aft.some w4
            go_wp2_with fail
            refine wp_region_class (Aft w4) (by kernel_rfl) (by kernel_rfl) (Aft.start w4) ?_
            repeat (go_big_quiet_step (first | with_reducible exact held_same (HLEN.out _) | with_reducible exact held_below Aft.keep (HGET.out _) | with_reducible exact held_below Aft.keep (HREF.out _)))
            refine wpQuiet_nil ?_
            rintro _ ⟨nn, rfl⟩
            have HW := Lib.hid (H4.out.1.below (HeldW_spec nn))
            go_wp2_with fail
            go_roundw
            case rel => exact ⟨i + 1, zs, by omega, by go_num, HFZ.out, HW.out⟩
            case measure => simp [intOf]; omega
      · obtain rfl : i = n := by omega
        have hx30 : xs.length ≤ 30 := by have := HF.out.len; omega
        obtain ⟨nx, hnx⟩ : ∃ nx, xs.length = nx := ⟨_, rfl⟩
        rw [hnx] at HP hxc1 hx30
        rw [hnx]
        have HNX := Lib.hid hnx; clear hnx
        have HSX := Lib.hid (show SlOf wr 5 eCSN Ax xs from by
          obtain ⟨A', c', ex, _, _, hs⟩ := HP.out.row.slv
          obtain ⟨rfl, _, rfl⟩ : Ax = A' ∧ nx = xs.length ∧ cx = c' := by injection ex with a b c; exact ⟨a, b, c⟩
          exact hs)
        obtain ⟨wo, hwo⟩ : ∃ wo, wo = wr := ⟨_, rfl⟩
        rw [← hwo] at HP HSX ⊢
        clear hwo wr
        go_wp2_with fail
        go_loopw [13, 14, 97] (fun sv uv iv wr => ∃ j : Nat, j ≤ nx ∧ iv = .int .i64 j ∧ sv = .int .i64 (bytesT (xs.take j)) ∧ OwnIt wr wo.heap.size uv (undT P (xs.take j)) ∧ Below wo.heap.size wo wr) (fun _ _ iv _ => nx - (intOf iv).toNat)
        case atStart => exact ⟨0, Nat.zero_le _, rfl, rfl, World.ownsRow_nil _ _ _ _, Below.refl _ _⟩
        case round =>
          obtain ⟨j, hj, rfl, rfl, ho, hb⟩ := hrel
          obtain ⟨Au, cu, rfl, huc1, huc2, _⟩ := SlV_of_any ho
          by_cases hjl : j < nx
          · have hjL : j < xs.length := by rw [HNX.out]; exact hjl
            obtain ⟨b, off, rfl, hbb, hcs⟩ := (HSX.out.below hb (Nat.le_refl _)) (by rw [HNX.out]; omega)
            have c0 := hcs j hjL 0 (by omega)
            have c1 := hcs j hjL 1 (by omega)
            have c2 := hcs j hjL 2 (by omega)
            have c3' := hcs j hjL 3 (by omega)
            have c4 := hcs j hjL 4 (by omega)
            simp only [eCSN, List.getElem?_cons_succ, List.getElem?_cons_zero, Nat.add_zero] at c0 c1 c2 c3' c4
            clear hcs
            have hj1 : (j : Int) < nx := by omega
            have hsm := HF.out.small xs[j] (List.getElem_mem hjL)
            have hok := HF.out.ok xs[j] (List.getElem_mem hjL)
            have hsum := bytesT_step xs j hjL
            have hust := undT_step P xs j hjL
            have hbt := bytesT_le (xs.take j) (fun e he => HF.out.small e (List.mem_of_mem_take he))
            rw [List.length_take] at hbt
            have hul := undT_len P (xs.take j)
            rw [List.length_take] at hul
            have haw : awayT P xs[j] = (!decide (xs[j].1 = P) && !inS (upsS xs[j].1) P) := rfl
            obtain ⟨⟨q, kd, md, tm, dt⟩, hx⟩ : ∃ x, xs[j] = x := ⟨_, rfl⟩
            simp only [hx] at c0 c1 c2 c3' c4 hsm hok hsum hust haw
            clear hx
            obtain ⟨S, hS⟩ : ∃ S, bytesT (xs.take j) = S := ⟨_, rfl⟩
            rw [hS] at hsum hbt
            rw [hS]
            clear hS
            obtain ⟨L, hL⟩ : ∃ L, undT P (xs.take j) = L := ⟨_, rfl⟩
            rw [hL] at hust ho hul huc1
            rw [hL]
            clear hL
            obtain ⟨mu, hmu⟩ : ∃ mu, L.length = mu := ⟨_, rfl⟩
            have hR1 : wr.ownsRow wo.heap.size 32 5 (.slice Au mu cu) mu (L.flatMap eCSN) := by have := ho; unfold OwnIt at this; rw [hmu] at this; exact this
            rw [hmu] at hul huc1
            rw [hmu]
            have HSU := Lib.hid (And.intro hsum (And.intro hust (And.intro haw hmu)))
            have HR := Lib.hid (And.intro hR1 hb)
            have hgW : wo.heap.size ≤ wr.heap.size := hb.size
            have hse := str_eq q P
            clear hsum hust haw hmu hR1 hb ho
            have hba := (Below.refl wr.heap.size wr).alloc (Nat.le_refl _) (.cells #[.string q, .int .i64 kd, .int .i64 md, .int .u32 tm, .string dt] 32)
            have HBA := Lib.hid hba; clear hba
            have hwrap : IntKind.i64.wrap ((S : Int) + (dt.size : Int)) = (S : Int) + (dt.size : Int) := IntWalk.i64_in _ (by omega)
            by_cases hqP : q = P
            · rw [decide_eq_true hqP] at hse
              have HF1 := Lib.hid (show undT P (xs.take (j + 1)) = L ++ [(q, ⟨kd, md, tm, dt⟩)] from by rw [HSU.out.2.1, HSU.out.2.2.1, decide_eq_true hqP]; rfl)
              have HB12 := Lib.hid (show Below wr.heap.size wr ((wr.alloc (.cells #[.string q, .int .i64 kd, .int .i64 md, .int .u32 tm, .string dt] 32)).alloc (.cells #[.string q, .int .i64 kd, .int .i64 md, .int .u32 tm, .string dt] 32)) from ((Below.refl _ _).alloc (Nat.le_refl _) _).alloc (by simp) _)
              clear hqP
              go_wp2_with (at_builtin; refine wpList_app rfl _ _ 22 rfl wo.heap.size 32 (.agg #[.string ⟨#[]⟩, .int .i64 0, .int .i64 0, .int .u32 0, .string ⟨#[]⟩]) 5 56 Tryz.underlying22 infoIt rfl (by decide) _ mu _ rfl ((HR.out.1.alloc _).alloc _) (wr.heap.size + 1) 1 #[.string q, .int .i64 kd, .int .i64 md, .int .u32 tm, .string dt] 32 rfl (blk_snd _ _ _ _) rfl (by simp [Value.oneCell']) (by omega) (by decide) (by simp; omega) _ rfl ?_; intro g cap w5 hown1 hgrow1 hat hlt1; have HA := Lib.hid (And.intro hown1 hgrow1); clear hown1 hgrow1 hat hlt1)
              go_roundw
              case rel => exact ⟨j + 1, by omega, by go_num, by rw [HSU.out.1]; exact congrArg (Value.int .i64) (by first | omega | (rw [hwrap]; omega)), by rw [HF1.out]; exact OwnIt.app HA.out.1 HSU.out.2.2.2, (HR.out.2.trans (HB12.out.mono hgW)).grown HA.out.2 (Nat.le_trans hgW HB12.out.size) (fun k hk => (HR.out.1.lt k hk).1)⟩
              case measure => simp [intOf]; omega
            · rw [decide_eq_false hqP] at hse
              have HRU := Lib.hid (fun W => ref16Under_any W P q hok)
              have HAW := Lib.hid (show awayT P (q, ⟨kd, md, tm, dt⟩) = !inS (upsS q) P from by rw [HSU.out.2.2.1, decide_eq_false hqP]; rfl)
              generalize inS (upsS q) P = R at *
              clear hqP
              have hbN := Blk.new wr 32 #[.string q, .int .i64 kd, .int .i64 md, .int .u32 tm, .string dt]
              have HBN := Lib.hid hbN; clear hbN
              go_wp2_with fail
              refine (HRU.out _).mono ?_
              rintro e w3 ⟨rfl, hb3⟩
              have hN3 := HBN.out.below hb3 HBN.out.lt
              have hR3 := own_kept (HR.out.1.alloc _) hb3
              have hb3' := HR.out.2.trans ((HBA.out.trans (hb3.mono HBA.out.size)).mono hgW)
              have hg3 : wo.heap.size ≤ w3.heap.size := hb3'.size
              have z0 := hN3.cell 0
              have z1 := hN3.cell 1
              have z2 := hN3.cell 2
              have z3 := hN3.cell 3
              have z4 := hN3.cell 4
              simp at z0 z1 z2 z3 z4
              have H3 := Lib.hid (And.intro hR3 hb3'); clear hN3 hR3 hb3' hb3 HBN HBA HRU
              cases R with
              | true =>
                have HF1 := Lib.hid (show undT P (xs.take (j + 1)) = L ++ [(q, ⟨kd, md, tm, dt⟩)] from by rw [HSU.out.2.1, HAW.out]; rfl)
                have HB12 := Lib.hid (show Below w3.heap.size w3 (w3.alloc (.cells #[.string q, .int .i64 kd, .int .i64 md, .int .u32 tm, .string dt] 32)) from (Below.refl _ _).alloc (Nat.le_refl _) _)
                go_wp2_with (at_builtin; refine wpList_app rfl _ _ 22 rfl wo.heap.size 32 (.agg #[.string ⟨#[]⟩, .int .i64 0, .int .i64 0, .int .u32 0, .string ⟨#[]⟩]) 5 56 Tryz.underlying22 infoIt rfl (by decide) _ mu _ rfl (H3.out.1.alloc _) w3.heap.size 1 #[.string q, .int .i64 kd, .int .i64 md, .int .u32 tm, .string dt] 32 rfl (Blk.new _ _ _) rfl (by simp [Value.oneCell']) (by omega) (by decide) (by simp; omega) _ rfl ?_; intro g cap w5 hown1 hgrow1 hat hlt1; have HA := Lib.hid (And.intro hown1 hgrow1); clear hown1 hgrow1 hat hlt1)
                go_roundw
                case rel => exact ⟨j + 1, by omega, by go_num, by rw [HSU.out.1]; exact congrArg (Value.int .i64) (by first | omega | (rw [hwrap]; omega)), by rw [HF1.out]; exact OwnIt.app HA.out.1 HSU.out.2.2.2, (H3.out.2.trans (HB12.out.mono hg3)).grown HA.out.2 (Nat.le_trans hg3 HB12.out.size) (fun k hk => (H3.out.1.lt k hk).1)⟩
                case measure => simp [intOf]; omega
              | false =>
                have HF1 := Lib.hid (show undT P (xs.take (j + 1)) = L from by rw [HSU.out.2.1, HAW.out]; simp)
                go_wp2_with fail
                go_roundw
                case rel => exact ⟨j + 1, by omega, by go_num, by rw [HSU.out.1]; exact congrArg (Value.int .i64) (by first | omega | (rw [hwrap]; omega)), by rw [HF1.out]; unfold OwnIt; rw [HSU.out.2.2.2]; exact H3.out.1, H3.out.2⟩
                case measure => simp [intOf]; omega
          · obtain rfl : nx = j := by omega
            rw [List.take_of_length_le (by rw [HNX.out]; omega)] at ho huc1 ⊢
            obtain ⟨us, hus⟩ : ∃ us, undT P xs = us := ⟨_, rfl⟩
            obtain ⟨S, hS⟩ : ∃ S, bytesT xs = S := ⟨_, rfl⟩
            have hbl := bytesT_le xs HF.out.small
            rw [HNX.out] at hbl
            rw [hS] at hbl
            rw [hus] at ho huc1
            rw [hus, hS]
            obtain ⟨mu, hmu⟩ : ∃ mu, us.length = mu := ⟨_, rfl⟩
            rw [hmu] at ho huc1
            rw [hmu]
            have hp5 := HP.out.below hb
            have HAL := Lib.hid (treeAll_any wr bt bm xs hp5.tree)
            have H5 := Lib.hid (And.intro hp5 ho)
            have HUS := Lib.hid (And.intro hus (And.intro hS hmu)); clear hp5 ho hb hus hS hmu
            go_wp2_with fail
            refine HAL.out.mono ?_
            rintro e w6 ⟨gb, v, rfl, hgb, hL, hge, hvb, hb6⟩
            have hnf : ∀ W, (binOp .eql 44 (.func (.func 116) #[] #[.pointer (some ⟨gb, 0, none⟩)]) Value.nilFunc).run Tryz.prog W = .ok (.bool false) W := fun W => rfl
            have hp6 := H5.out.1.below hb6
            have hu6 : OwnIt w6 w.heap.size (.slice Au mu cu) us := own_wide (H5.out.2.below hb6) HP.out.old.size
            obtain ⟨M, hM, hM40⟩ : ∃ M : Nat, (mo : Int) % 40 = M ∧ M < 40 := ⟨mo % 40, by omega, by omega⟩
            have hMw : IntKind.i64.wrap (M : Int) = M := IntWalk.i64_in _ (by omega)
            have b0 := Blk.new w6 22 #[.slice none 0 0]
            have hba := (Below.refl w6.heap.size w6).alloc (Nat.le_refl _) (.cells #[.slice none 0 0] 22)
            have hgl := hgb.lt
            have hgb7 := hgb.below hba hgl
            have hL7 := hL.below hba
            obtain ⟨w7, hw7⟩ : ∃ w7, w6.alloc (.cells #[.slice none 0 0] 22) = w7 := ⟨_, rfl⟩
            have hz7 : w7.heap.size = w6.heap.size + 1 := by rw [← hw7]; simp
            rw [hw7] at b0 hba hgb7 hL7
            have hmoB : w6.cell? ⟨w.heap.size, 0, none⟩ = some (.int .u64 mo) := hp6.box.cell 0
            have hmoL := hp6.box.lt
            have H6 := Lib.hid (And.intro hp6 hu6); clear hp6 hu6 hge hb6 H5 HAL hgb hL
            have HW7 := Lib.hid hw7; clear hw7
            go_wp2_with fail
            refine (wpIn_wide (n := 9)).1 ?_
            gi_wp2
            rw [HW7.out]
            obtain ⟨Tg, hTg⟩ : ∃ Tg, w6.heap.size = Tg := ⟨_, rfl⟩
            rw [hTg] at b0 hba hgl hvb hz7 hmoL
            rw [hTg]
            have hTle : w.heap.size ≤ Tg := by rw [← hTg]; exact H6.out.1.old.size
            have HTG := Lib.hid hTg; clear hTg
            refine wpIn_rangeFunc_tellW (Mine := fun _ => False) (fun _ h => h.elim) rfl (by omega) (gf := 116) (lb := #[.pointer (some ⟨gb, 0, none⟩)]) rfl trivial (enters_of Tryz.func116 (by kernel_rfl) rfl)
              (toldSN_tells 8 (by omega) gb v xs w7 hgb7 hL7 (by rw [HNX.out]; omega)) KeepIt.trans (keepIt_b (by omega) (fun g hg => by have := hvb g hg; omega)) (Below.refl _ _) (fun _ => rfl)
              (fun pre W => GtI Tg M pre W ∧ Below Tg w6 W)
              (fun c pre W => GtX Tg M c pre W ∧ Below Tg w6 W)
              (OwnM.of_none (OwnFrom.and (Own.from (GtI.own Tg M) _) (ownFrom_below (by have := HTG.out; omega) (by omega))))
              (fun c => OwnM.of_none (OwnFrom.and (Own.from (GtX.own Tg M c) _) (ownFrom_below (by have := HTG.out; omega) (by omega))))
              ⟨⟨⟨Nat.zero_le _, by omega⟩, _, b0, World.ownsRow_nil _ _ _ _⟩, hba⟩
              ?a1 (fun x W => W.alloc (.cells x.2.c 30))
              (fun x n₀ pre W => (GtI Tg M pre W ∧ Below Tg w6 W) ∧ Blk W n₀ 30 x.2.c)
              (fun x n₀ => OwnM.of_none (OwnFrom.and (OwnFrom.and (Own.from (GtI.own Tg M) _) (ownFrom_below (by have := HTG.out; omega) (by omega))) (Own.from (fun _ A B row hs hg hr => blk_ownF hs hg hr) _)))
              ?made ?assign ?body ?done ?stop
            case made =>
              rintro pre x W ⟨hI, hB⟩ hT
              have hba := (Below.refl W.heap.size W).alloc (Nat.le_refl _) (.cells x.2.c 30)
              have hsz := hI.1.2
              exact ⟨⟨⟨hI.below hba, hB.trans (hba.mono (by omega))⟩, Blk.new _ _ _⟩, keeps_belowF hba, .below hba (by omega) (fun g hg => by have := hvb g hg; omega)⟩
            case assign =>
              intro l x n0 W hn K hK
              simp only [Nd.c]
              gi_wp2
              exact hK
            case body =>
              rintro l pre x n₀ W ⟨⟨⟨⟨hle, hsz⟩, o, b1, ho⟩, hB⟩, hX⟩ hT
              have x0 := hX.cell 0
              have x1 := hX.cell 1
              have x2 := hX.cell 2
              have x3 := hX.cell 3
              simp [Nd.c] at x0 x1 x2 x3
              have m1 := b1.cell 0
              have f1 := b1.frozen 0
              simp at m1
              have mo0 := (hB.cell (p := ⟨w.heap.size, 0, none⟩) hmoL).trans hmoB
              obtain ⟨A3, c3, rfl, _, _, _⟩ := SlV_of_any ho
              have hpl : pre.length + 1 ≤ 1000 := by obtain ⟨r, hr⟩ := hT; have := congrArg List.length hr; simp at this; have := HNX.out; omega
              have HH := Lib.hid (And.intro b1 (And.intro ho hB)); clear b1 ho hB hX hT
              by_cases hm : pre.length < M
              · have hm' : ¬ (M : Int) ≤ (pre.length : Int) := by omega
                gi_wp2_with (gi_at_builtin; refine wpListIn_app rfl _ _ 22 rfl Tg 32 (.agg #[.string ⟨#[]⟩, .int .i64 0, .int .i64 0, .int .u32 0, .string ⟨#[]⟩]) 5 56 Tryz.underlying22 infoIt rfl (by decide) _ pre.length _ rfl (HH.out.2.1.alloc _) W.heap.size 1 #[.string x.1, .int .i64 x.2.kind, .int .i64 x.2.mode, .int .u32 x.2.time, .string x.2.data] 32 rfl (Blk.new _ _ _) rfl (by simp [Value.oneCell']) (by omega) (by decide) (by simp; omega) _ rfl ?_; intro g cap w5 hown1 hgrow1 hat hlt1; have hb5 := app_pre HH.out.1 HH.out.2.1 ((Below.refl _ _).alloc (Nat.le_refl _) _) hgrow1 (by decide); have c5 := hb5.cell 0; have f5 := hb5.frozen 0; simp at c5)
                have hA := app_body HH.out.1 HH.out.2.1 ((Below.refl _ _).alloc (Nat.le_refl _) _) hgrow1 hown1 (by omega) (Nat.le_refl _) (by decide)
                exact ⟨hA.keeps, .below hA.below hgl hvb, ⟨⟨by simp; omega, Nat.le_trans hsz hA.below.size⟩, _, hA.box, OwnIt.app hA.own rfl⟩, HH.out.2.2.trans hA.below⟩
              · have hm' : (M : Int) ≤ (pre.length : Int) := by omega
                gi_wp2
                exact ⟨KeepsOthers.refl _, ⟨pre, x, rfl, by omega, rfl, hsz, _, HH.out.1, HH.out.2.1⟩, HH.out.2.2⟩
            case done =>
              rintro D zs W hD hzs ⟨⟨⟨hle, hsz⟩, o, b1, ho⟩, hB⟩ hK
              have hz : zs = xs := hzs
              have hgs : xs.take M = zs := by rw [hz, List.take_of_length_le]; rw [← hz]; exact hle
              rw [← hgs] at ho
              obtain ⟨q, hq, hmin⟩ : ∃ q : Nat, q ≤ nx ∧ min (nx : Int) M = q := ⟨min nx M, by omega, by omega⟩
              have htk : xs.take M = xs.take q := by
                rcases Nat.le_total nx M with h | h
                · rw [List.take_of_length_le (by rw [HNX.out]; exact h), List.take_of_length_le (by rw [HNX.out]; omega)]
                · rw [show q = M by omega]
              rw [htk] at ho
              obtain ⟨A3, c3, rfl, _, _, _⟩ := SlV_of_any ho
              obtain ⟨ng, hng⟩ : ∃ ng, (xs.take q).length = ng := ⟨_, rfl⟩
              rw [hng] at ho b1
              have hB' : Below w6.heap.size w6 W := by rw [HTG.out]; exact hB
              have HZ := Lib.hid (show PlZ w bt bm Tg D (.int .u64 mo) (.slice Ax nx cx) (.slice Au mu cu) (.slice A3 ng c3) xs us (xs.take q) W from ⟨H6.out.1.below hB', H6.out.2.below hB', b1, own_wide ho hTle, hK⟩)
              have HQ := Lib.hid hq
              have hD' : w.heap.size ≤ D := by omega
              have hqI : (q : Int) ≤ nx := by omega
              have k1 : ∀ m : Held (Aft W), (HeldW m).cell? ⟨Tg, 0, none⟩ = some (.slice A3 ng c3) := fun m => (Aft.cell m HZ.out.box.lt).trans (HZ.out.box.cell 0)
              have k2 : ∀ m : Held (Aft W), (HeldW m).cell? ⟨w.heap.size, 0, none⟩ = some (.int .u64 mo) := fun m => (Aft.cell m HZ.out.pl.box.lt).trans (HZ.out.pl.box.cell 0)
              have HC0 := Lib.hid (Aft.start W)
              have HZ0 := Lib.hid (HZ.out.below ((Below.refl _ W).drew))
              clear ho b1 hB hB' hK htk hgs hng
              go_wp2_with fail
              refine wp_region_mix (Aft W) [(0, true), (2, true), (1, false), (3, false), (4, true), (5, true), (6, true), (8, true), (7, false), (9, false), (10, true), (11, true), (12, true), (14, true), (13, false), (15, true), (16, true), (17, true), (18, true), (19, true), (20, true), (21, true), (22, true), (23, true), (24, true), (25, true), (26, true), (27, false), (28, true), (29, true), (30, false), (31, true), (32, true)] (by kernel_rfl) (by kernel_rfl) ?_
              simp only [pickP, List.filterMap_cons, List.filterMap_nil, List.getElem?_toArray, List.getElem?_cons_succ, List.getElem?_cons_zero, Option.map_some]
              repeat (apply mix_first; apply Exists.intro; refine ⟨fun m => ?_, HC0.out, ?_⟩; · (go_big_quiet_step (fail); exact wpQuiet_nil rfl))
              refine mix_forced HC0.out ?_
              go_wp2_with fail
              refine (treeItems_any W.drew bt bm xs HZ0.out.pl.tree (by rw [HNX.out]; omega)).mono ?_
              rintro e w8 ⟨r8, rfl, ho8, hb8⟩
              obtain ⟨A8, c8, rfl, _, _, _⟩ := SlV_of_any ho8
              have HC8 := Lib.hid (Aft.keep _ _ HC0.out hb8)
              have HZ8 := Lib.hid (HZ0.out.below hb8)
              have HWH := Lib.hid (ref16Whole_same w8 _ _ xs ho8.slv HZ8.out.pl.row.slv); clear ho8 hb8 HZ0 HC0
              go_wp2_with fail
              show mixC _ _ _ _ _ _ _
              refine mix_forced HC8.out ?_
              go_wp2_with fail
              refine HWH.out.mono ?_
              rintro e w9 ⟨rfl, hb9⟩
              have HC9 := Lib.hid (Aft.keep _ _ HC8.out hb9)
              have HZ9 := Lib.hid (HZ8.out.below hb9); clear hb9 HZ8 HWH HC8
              go_wp2_with fail
              show mixC _ _ _ _ _ _ _
              repeat (apply mix_first; apply Exists.intro; refine ⟨fun m => ?_, HC9.out, ?_⟩; · (go_big_quiet_step (fail); exact wpQuiet_nil rfl))
              refine mix_forced HC9.out ?_
              go_wp2_with fail
              refine (treeUnder_any w9 bt bm xs P HZ9.out.pl.tree (by rw [HNX.out]; omega) (by omega)).mono ?_
              rintro e w10 ⟨r10, rfl, ho10, hb10⟩
              rw [HUS.out.1] at ho10
              obtain ⟨A10, c10, rfl, _, _, _⟩ := SlV_of_any ho10
              have HC10 := Lib.hid (Aft.keep _ _ HC9.out hb10)
              have HZ10 := Lib.hid (HZ9.out.below hb10)
              have HWH := Lib.hid (ref16Whole_same w10 _ _ us ho10.slv HZ10.out.und.slv); clear ho10 hb10 HZ9 HC9
              go_wp2_with fail
              show mixC _ _ _ _ _ _ _
              refine mix_forced HC10.out ?_
              go_wp2_with fail
              refine HWH.out.mono ?_
              rintro e w11 ⟨rfl, hb11⟩
              have HC11 := Lib.hid (Aft.keep _ _ HC10.out hb11)
              have HZ11 := Lib.hid (HZ10.out.below hb11); clear hb11 HZ10 HWH HC10
              have HBY := Lib.hid (treeBytes_any w11 bt bm xs HZ11.out.pl.tree (by rw [HNX.out]; omega) (by rw [HUS.out.2.1]; omega))
              rw [HUS.out.2.1] at HBY
              go_wp2_with fail
              show mixC _ _ _ _ _ _ _
              repeat (apply mix_first; apply Exists.intro; refine ⟨fun m => ?_, HC11.out, ?_⟩; · (go_big_quiet_step (fail); exact wpQuiet_nil rfl))
              refine mix_forced HC11.out ?_
              go_wp2_with fail
              refine HBY.out.mono ?_
              rintro e w12 ⟨rfl, hb12⟩
              have HC12 := Lib.hid (Aft.keep _ _ HC11.out hb12)
              have hz12 := HZ11.out.below hb12
              have HWH := Lib.hid (ref16Whole_same w12 _ _ (xs.take q) hz12.got.slv (slv_cutI hz12.pl.row.slv q HQ.out))
              have HZ12 := Lib.hid hz12; clear hz12 hb12 HZ11 HBY HC11
              go_wp2_with fail
              show mixC _ _ _ _ _ _ _
              repeat (apply mix_first; apply Exists.intro; refine ⟨fun m => ?_, HC12.out, ?_⟩; · (go_big_quiet_step (fail); exact wpQuiet_nil rfl))
              refine mix_forced HC12.out ?_
              go_wp2_with fail
              refine HWH.out.mono ?_
              rintro e w13 ⟨rfl, hb13⟩
              have HC13 := Lib.hid (Aft.keep _ _ HC12.out hb13)
              have HZ13 := Lib.hid (HZ12.out.below hb13); clear hb13 HZ12 HWH HC12
              go_wp2_with fail
              show mixC _ _ _ _ _ _ _
              repeat (apply mix_first; apply Exists.intro; refine ⟨fun m => ?_, HC13.out, ?_⟩; · (go_big_quiet_step (fail); exact wpQuiet_nil rfl))
              refine mix_forced HC13.out ?_
              go_wp2_with fail
              refine (HLV.out w13).mono ?_
              rintro e w14 ⟨rfl, hb14⟩
              have HC14 := Lib.hid (Aft.keep _ _ HC13.out hb14)
              have HZ14 := Lib.hid (HZ13.out.below hb14); clear hb14 HZ13 HC13
              go_wp2_with fail
              show mixC _ _ _ _ _ _ _
              repeat (apply mix_first; apply Exists.intro; refine ⟨fun m => ?_, HC14.out, ?_⟩; · (go_big_quiet_step (fail); exact wpQuiet_nil rfl))
              refine mix_nil HC14.out ?_
              go_wp2_with fail
              refine ⟨by simp, .inl ⟨_, _, rfl, run_takeDeferred HZ14.out.dfr, ?_⟩⟩
              refine ⟨_, results_tmp rfl _ _ _, rfl, ?_⟩
              exact HZ14.out.pl.old.trans (belowK_b (w := w) (Nat.le_refl _) _ D _ _ hD' HZ14.out.dfr rfl rfl)
            case stop =>
              rintro D c pre W hD hSp ⟨⟨zs, x, rfl, hlen, rfl, hsz, o, b1, ho⟩, hB⟩ hK
              have hgs : xs.take M = zs := by
                obtain ⟨r, hr⟩ := hSp
                rw [← hr, List.append_assoc, ← hlen]
                exact List.take_left
              rw [← hgs] at ho
              obtain ⟨q, hq, hmin⟩ : ∃ q : Nat, q ≤ nx ∧ min (nx : Int) M = q := ⟨min nx M, by omega, by omega⟩
              have htk : xs.take M = xs.take q := by
                rcases Nat.le_total nx M with h | h
                · rw [List.take_of_length_le (by rw [HNX.out]; exact h), List.take_of_length_le (by rw [HNX.out]; omega)]
                · rw [show q = M by omega]
              rw [htk] at ho
              obtain ⟨A3, c3, rfl, _, _, _⟩ := SlV_of_any ho
              obtain ⟨ng, hng⟩ : ∃ ng, (xs.take q).length = ng := ⟨_, rfl⟩
              rw [hng] at ho b1
              have hB' : Below w6.heap.size w6 W := by rw [HTG.out]; exact hB
              have HZ := Lib.hid (show PlZ w bt bm Tg D (.int .u64 mo) (.slice Ax nx cx) (.slice Au mu cu) (.slice A3 ng c3) xs us (xs.take q) W from ⟨H6.out.1.below hB', H6.out.2.below hB', b1, own_wide ho hTle, hK⟩)
              have HQ := Lib.hid hq
              have hD' : w.heap.size ≤ D := by omega
              have hqI : (q : Int) ≤ nx := by omega
              have k1 : ∀ m : Held (Aft W), (HeldW m).cell? ⟨Tg, 0, none⟩ = some (.slice A3 ng c3) := fun m => (Aft.cell m HZ.out.box.lt).trans (HZ.out.box.cell 0)
              have k2 : ∀ m : Held (Aft W), (HeldW m).cell? ⟨w.heap.size, 0, none⟩ = some (.int .u64 mo) := fun m => (Aft.cell m HZ.out.pl.box.lt).trans (HZ.out.pl.box.cell 0)
              have HC0 := Lib.hid (Aft.start W)
              have HZ0 := Lib.hid (HZ.out.below ((Below.refl _ W).drew))
              clear ho b1 hB hB' hK htk hgs hng
              gi_wp2
              go_wp2_with fail
              refine wp_region_mix (Aft W) [(0, true), (2, true), (1, false), (3, false), (4, true), (5, true), (6, true), (8, true), (7, false), (9, false), (10, true), (11, true), (12, true), (14, true), (13, false), (15, true), (16, true), (17, true), (18, true), (19, true), (20, true), (21, true), (22, true), (23, true), (24, true), (25, true), (26, true), (27, false), (28, true), (29, true), (30, false), (31, true), (32, true)] (by kernel_rfl) (by kernel_rfl) ?_
              simp only [pickP, List.filterMap_cons, List.filterMap_nil, List.getElem?_toArray, List.getElem?_cons_succ, List.getElem?_cons_zero, Option.map_some]
              repeat (apply mix_first; apply Exists.intro; refine ⟨fun m => ?_, HC0.out, ?_⟩; · (go_big_quiet_step (fail); exact wpQuiet_nil rfl))
              refine mix_forced HC0.out ?_
              go_wp2_with fail
              refine (treeItems_any W.drew bt bm xs HZ0.out.pl.tree (by rw [HNX.out]; omega)).mono ?_
              rintro e w8 ⟨r8, rfl, ho8, hb8⟩
              obtain ⟨A8, c8, rfl, _, _, _⟩ := SlV_of_any ho8
              have HC8 := Lib.hid (Aft.keep _ _ HC0.out hb8)
              have HZ8 := Lib.hid (HZ0.out.below hb8)
              have HWH := Lib.hid (ref16Whole_same w8 _ _ xs ho8.slv HZ8.out.pl.row.slv); clear ho8 hb8 HZ0 HC0
              go_wp2_with fail
              show mixC _ _ _ _ _ _ _
              refine mix_forced HC8.out ?_
              go_wp2_with fail
              refine HWH.out.mono ?_
              rintro e w9 ⟨rfl, hb9⟩
              have HC9 := Lib.hid (Aft.keep _ _ HC8.out hb9)
              have HZ9 := Lib.hid (HZ8.out.below hb9); clear hb9 HZ8 HWH HC8
              go_wp2_with fail
              show mixC _ _ _ _ _ _ _
              repeat (apply mix_first; apply Exists.intro; refine ⟨fun m => ?_, HC9.out, ?_⟩; · (go_big_quiet_step (fail); exact wpQuiet_nil rfl))
              refine mix_forced HC9.out ?_
              go_wp2_with fail
              refine (treeUnder_any w9 bt bm xs P HZ9.out.pl.tree (by rw [HNX.out]; omega) (by omega)).mono ?_
              rintro e w10 ⟨r10, rfl, ho10, hb10⟩
              rw [HUS.out.1] at ho10
              obtain ⟨A10, c10, rfl, _, _, _⟩ := SlV_of_any ho10
              have HC10 := Lib.hid (Aft.keep _ _ HC9.out hb10)
              have HZ10 := Lib.hid (HZ9.out.below hb10)
              have HWH := Lib.hid (ref16Whole_same w10 _ _ us ho10.slv HZ10.out.und.slv); clear ho10 hb10 HZ9 HC9
              go_wp2_with fail
              show mixC _ _ _ _ _ _ _
              refine mix_forced HC10.out ?_
              go_wp2_with fail
              refine HWH.out.mono ?_
              rintro e w11 ⟨rfl, hb11⟩
              have HC11 := Lib.hid (Aft.keep _ _ HC10.out hb11)
              have HZ11 := Lib.hid (HZ10.out.below hb11); clear hb11 HZ10 HWH HC10
              have HBY := Lib.hid (treeBytes_any w11 bt bm xs HZ11.out.pl.tree (by rw [HNX.out]; omega) (by rw [HUS.out.2.1]; omega))
              rw [HUS.out.2.1] at HBY
              go_wp2_with fail
              show mixC _ _ _ _ _ _ _
              repeat (apply mix_first; apply Exists.intro; refine ⟨fun m => ?_, HC11.out, ?_⟩; · (go_big_quiet_step (fail); exact wpQuiet_nil rfl))
              refine mix_forced HC11.out ?_
              go_wp2_with fail
              refine HBY.out.mono ?_
              rintro e w12 ⟨rfl, hb12⟩
              have HC12 := Lib.hid (Aft.keep _ _ HC11.out hb12)
              have hz12 := HZ11.out.below hb12
              have HWH := Lib.hid (ref16Whole_same w12 _ _ (xs.take q) hz12.got.slv (slv_cutI hz12.pl.row.slv q HQ.out))
              have HZ12 := Lib.hid hz12; clear hz12 hb12 HZ11 HBY HC11
              go_wp2_with fail
              show mixC _ _ _ _ _ _ _
              repeat (apply mix_first; apply Exists.intro; refine ⟨fun m => ?_, HC12.out, ?_⟩; · (go_big_quiet_step (fail); exact wpQuiet_nil rfl))
              refine mix_forced HC12.out ?_
              go_wp2_with fail
              refine HWH.out.mono ?_
              rintro e w13 ⟨rfl, hb13⟩
              have HC13 := Lib.hid (Aft.keep _ _ HC12.out hb13)
              have HZ13 := Lib.hid (HZ12.out.below hb13); clear hb13 HZ12 HWH HC12
              go_wp2_with fail
              show mixC _ _ _ _ _ _ _
              repeat (apply mix_first; apply Exists.intro; refine ⟨fun m => ?_, HC13.out, ?_⟩; · (go_big_quiet_step (fail); exact wpQuiet_nil rfl))
              refine mix_forced HC13.out ?_
              go_wp2_with fail
              refine (HLV.out w13).mono ?_
              rintro e w14 ⟨rfl, hb14⟩
              have HC14 := Lib.hid (Aft.keep _ _ HC13.out hb14)
              have HZ14 := Lib.hid (HZ13.out.below hb14); clear hb14 HZ13 HC13
              go_wp2_with fail
              show mixC _ _ _ _ _ _ _
              repeat (apply mix_first; apply Exists.intro; refine ⟨fun m => ?_, HC14.out, ?_⟩; · (go_big_quiet_step (fail); exact wpQuiet_nil rfl))
              refine mix_nil HC14.out ?_
              go_wp2_with fail
              refine ⟨by simp, .inl ⟨_, _, rfl, run_takeDeferred HZ14.out.dfr, ?_⟩⟩
              refine ⟨_, results_tmp rfl _ _ _, rfl, ?_⟩
              exact HZ14.out.pl.old.trans (belowK_b (w := w) (Nat.le_refl _) _ D _ _ hD' HZ14.out.dfr rfl rfl)
end Go.Proofs.YthnnnlbdbkdcaaaGreatDoor
