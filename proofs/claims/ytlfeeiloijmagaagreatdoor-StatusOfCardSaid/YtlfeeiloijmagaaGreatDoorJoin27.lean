/- Several texts, joined for the limit of sixty files; each one opens with its own comment. -/
import Derived.Test.YtlfeeiloijmagaaGreatDoorJoin5
import Derived.StillTail
import Derived.StillTactics
import Derived.Test.YtlfeeiloijmagaaGreatDoorJoin25
import Derived.Test.YtlfeeiloijmagaaGreatDoorJoin26
import Derived.Test.YtlfeeiloijmagaaGreatDoorJoin13
/- A region that draws its order, walked in an order of one's own: an operation that yields the same in all worlds of a class may go first; any other one must be the only one that is ready. Over any program. -/
set_option linter.unusedVariables false
set_option linter.unusedSimpArgs false
namespace Sw
open Go
/-- Q where the region goes on, else nothing -/
def OnlyN (Q : Exit → Act → World → Prop) : Exit → Act → World → Prop
  | .normal, a, w => Q .normal a w
  | _, _, _ => False
theorem OnlyN.imp {Q : Exit → Act → World → Prop} : ∀ (e : Exit) (a : Act) (w : World), OnlyN Q e a w → Q e a w := fun e a w h => by
  cases e <;> first | exact h | exact (h : False).elim
theorem OnlyN.out {Q : Exit → Act → World → Prop} : ¬ LetsOut (OnlyN Q) := fun ⟨_, _, h⟩ => h
section
variable {P : Program} {ops : Array Oper} {md : Region.Mode} {Q : Exit → Act → World → Prop} {C : World → Prop}
def anyC (P : Program) (md : Region.Mode) (ops : Array Oper) (C : World → Prop) (Q : Exit → Act → World → Prop) : Nat → Array Bool → Act → World → Prop
  | 0, listed, a, w => C w ∧ Region.ready md ops listed = [] ∧ Q .normal a w
  | f + 1, listed, a, w => C w ∧ Region.ready md ops listed ≠ [] ∧ ∀ i ∈ Region.ready md ops listed, wpOp P ops (OnlyN Q) i (anyC P md ops C Q f (listed.setIfInBounds i true)) a w
theorem anyC_C : ∀ {f : Nat} {listed : Array Bool} {a : Act} {w : World}, anyC P md ops C Q f listed a w → C w
  | 0, _, _, _, h => h.1
  | _ + 1, _, _, _, h => h.1
theorem wpAny_of_anyC : ∀ (f : Nat) (listed : Array Bool) (a : Act) (w : World), anyC P md ops C Q f listed a w → wpAny P md ops (OnlyN Q) f listed a w
  | 0, _, _, _, h => h.2
  | f + 1, listed, a, w, h => ⟨fun h0 => absurd h0 h.2.1, fun i hi => wpOp_mono (fun a w => wpAny_of_anyC f _ a w) (h.2.2 i hi)⟩
theorem upon_put {oj : Oper} {K K' : Act → World → Prop} {a b : Act} (hK : ∀ ds u w', K (({ b with defers := ds ++ b.defers } : Act).put oj.dst u) w' → K' (({ a with defers := ds ++ a.defers } : Act).put oj.dst u) w') : ∀ r : Result Next, oj.upon P b K (OnlyN Q) r → oj.upon P a K' (OnlyN Q) r := fun r h => by
  have h0 : ∀ u w', K (b.put oj.dst u) w' → K' (a.put oj.dst u) w' := fun u w' => hK [] u w'
  cases r with
  | ok n w' =>
    cases n <;> simp only [Oper.upon] at h ⊢
    case value u => exact h0 u w' h
    case skip => exact h0 _ w' h
    case defer d => exact hK [d] _ w' h
    case enter f args => exact Calls.mono h (fun e w'' he => by cases e <;> first | exact h0 _ _ he | exact he)
    case row row args => exact Rows.mono h (fun v w'' he => h0 _ _ he)
  | halt x w' => cases x <;> simp only [Oper.upon] at h ⊢ <;> exact h
theorem wpOp_put {j : Nat} {oi oj : Oper} {v : Value} {a : Act} {w : World} (hj : ops[j]? = some oj) (hap : oi.apart ops oj = true) (hsj : ∀ cs b, oj.op ≠ .select cs b)
    {K K' : Act → World → Prop} (hK : ∀ ds u w', K ((({ a with defers := ds ++ a.defers } : Act).put oj.dst u).put oi.dst v) w' → K' (({ a with defers := ds ++ a.defers } : Act).put oj.dst u) w')
    (h : wpOp P ops (OnlyN Q) j K (a.put oi.dst v) w) : wpOp P ops (OnlyN Q) j K' a w := by
  obtain ⟨h1, h2, h3⟩ := Oper.apart_spec hap
  unfold wpOp at *
  simp only [hj] at *
  rw [wanted_put oj a oi.dst v h1] at h
  have hpd : ∀ (ds : List Deferred) (b : Act) (x : Option Tmp) (u : Value), ({ b.put x u with defers := ds } : Act) = ({ b with defers := ds } : Act).put x u := fun ds b x u => by cases x <;> rfl
  have hdd : ∀ (b : Act) (x : Option Tmp) (u : Value), (b.put x u).defers = b.defers := fun b x u => by cases x <;> rfl
  split
  · rename_i hw
    rw [if_pos hw] at h
    rcases h with h | h
    · left
      unfold Oper.wp at *
      rw [execOp_put oj hsj a oi.dst v h1] at h
      refine upon_put (fun ds u w' hk => hK ds u w' ?_) _ h
      rw [hpd, hdd] at hk
      rw [Act.put_comm _ v u h2] at hk
      exact hk
    · exact absurd h.2 OnlyN.out
  · rename_i hw
    rw [if_neg hw] at h
    refine hK [] undef w ?_
    rw [← Act.put_comm _ v undef h2]
    exact h
theorem anyC_first {i : Nat} {oi : Oper} {v : Value} (hi : ops[i]? = some oi) (hsel : ∀ (j : Nat) (o : Oper) cs b, ops[j]? = some o → o.op ≠ .select cs b) :
    ∀ (f : Nat) (listed : Array Bool) (a : Act) (w : World),
      (∀ j oj, ops[j]? = some oj → j ≠ i → listed.getD j true = false → (∀ e ∈ oj.after, Region.binds md e = true → e.on ≠ i) → oi.apart ops oj = true) →
      i ∈ Region.ready md ops listed → C w → (∀ W, C W → ∃ v', YieldsAt P ops W oi v' a ∧ a.put oi.dst v' = a.put oi.dst v) →
      anyC P md ops C Q f (listed.setIfInBounds i true) (a.put oi.dst v) w → anyC P md ops C Q (f + 1) listed a w := by
  intro f
  induction f with
  | zero =>
    intro listed a w _ hr hC hy H
    refine ⟨hC, fun h => (by rw [h] at hr; cases hr), fun j hj => ?_⟩
    by_cases hji : j = i
    · subst hji
      obtain ⟨v', hy1, hy2⟩ := hy w hC
      exact wpOp_of_stOp (fun a' h' => h') (hy1.stOp (K := fun a' => anyC P md ops C Q 0 (listed.setIfInBounds j true) a' w) hi (by rw [hy2]; exact H))
    · have := ready_mono hj hji
      rw [H.2.1] at this
      cases this
  | succ f ih =>
    intro listed a w hfree hr hC hy H
    have hun := (mem_ready.1 hr).1
    refine ⟨hC, fun h => (by rw [h] at hr; cases hr), fun j hj => ?_⟩
    by_cases hji : j = i
    · subst hji
      obtain ⟨v', hy1, hy2⟩ := hy w hC
      exact wpOp_of_stOp (fun a' h' => h') (hy1.stOp (K := fun a' => anyC P md ops C Q (f + 1) (listed.setIfInBounds j true) a' w) hi (by rw [hy2]; exact H))
    · have h1 := H.2.2 j (ready_mono hj hji)
      obtain ⟨hjun, oj, hoj, hall⟩ := mem_ready.1 hj
      have hnot : ∀ e ∈ oj.after, Region.binds md e = true → e.on ≠ i := fun e he hb heq => by
        have h1 := hall e he hb
        rw [heq, getD_both hun] at h1
        cases h1
      have hap := hfree j oj hoj hji hjun hnot
      have hap3 := (Oper.apart_spec hap)
      refine wpOp_put hoj hap (fun cs b => hsel j oj cs b hoj) (fun ds u w' hk => ?_) h1
      refine ih (listed.setIfInBounds j true) _ w' (fun k ok hk' hki hunk hno => hfree k ok hk' hki (by
        by_cases hjk : j = k
        · subst hjk; exact hjun
        · rw [getD_set_ne true hjk] at hunk; exact hunk) hno) (ready_mono hr (Ne.symm hji)) (anyC_C hk) (fun W hW => ?_) (by rw [Array.setIfInBounds_comm _ _ hji]; exact hk)
      obtain ⟨v', hy1, hy2⟩ := hy W hW
      refine ⟨v', hy1.of_same ?_ ?_, ?_⟩
      · exact execOp_put oi (fun cs b => hsel i oi cs b hi) ({ a with defers := ds ++ a.defers } : Act) oj.dst u hap3.2.2
      · exact wanted_put oi ({ a with defers := ds ++ a.defers } : Act) oj.dst u hap3.2.2
      · have hb : ∀ x, ({ a with defers := ds ++ a.defers } : Act).put oi.dst x = { a.put oi.dst x with defers := ds ++ a.defers } := fun x => by cases oi.dst <;> rfl
        rw [← Act.put_comm _ v' u hap3.2.1, ← Act.put_comm _ v u hap3.2.1, hb, hb, hy2]
/-- the walk in an order of one's own: 'true': yields the same in the class; 'false': forced -/
def mixC (P : Program) (ops : Array Oper) (C : World → Prop) (Q : Exit → Act → World → Prop) : List (Oper × Bool) → Act → World → Prop
  | [], a, w => C w ∧ Q .normal a w
  | (o, true) :: r, a, w => ∃ A1, (∀ m : Held C, wpStill P ops (HeldW m) (fun a' => a' = A1) [o] a) ∧ C w ∧ mixC P ops C Q r A1 w
  | (o, false) :: r, a, w => C w ∧ wpList P ops (OnlyN fun _ a' w' => mixC P ops C Q r a' w') [o] a w
def permB (md : Region.Mode) (ops : Array Oper) : List (Nat × Bool) → Array Bool → Bool
  | [], listed => (Region.ready md ops listed).isEmpty
  | (i, true) :: r, listed => (Region.ready md ops listed).contains i && Region.free md ops listed i && permB md ops r (listed.setIfInBounds i true)
  | (i, false) :: r, listed => decide (Region.ready md ops listed = [i]) && permB md ops r (listed.setIfInBounds i true)
def pickP (ops : Array Oper) (perm : List (Nat × Bool)) : List (Oper × Bool) := perm.filterMap fun p => (ops[p.1]?).map fun o => (o, p.2)
theorem anyC_of_mix (hs : Region.noSelect ops = true) : ∀ (perm : List (Nat × Bool)) (listed : Array Bool) (a : Act) (w : World), permB md ops perm listed = true → mixC P ops C Q (pickP ops perm) a w → anyC P md ops C Q perm.length listed a w
  | [], listed, a, w, hB, h => ⟨h.1, by simpa [permB] using hB, h.2⟩
  | (i, true) :: r, listed, a, w, hB, h => by
    simp only [permB, Bool.and_eq_true] at hB
    obtain ⟨⟨hr, hf⟩, hB'⟩ := hB
    have hr' : i ∈ Region.ready md ops listed := by simpa using hr
    obtain ⟨_, o, ho, _⟩ := mem_ready.1 hr'
    have e : pickP ops ((i, true) :: r) = (o, true) :: pickP ops r := by unfold pickP; simp [ho]
    rw [e] at h
    obtain ⟨A1, hv, hC, hm⟩ := h
    have hst : ∀ W, C W → ∃ v', YieldsAt P ops W o v' a ∧ a.put o.dst v' = A1 := fun W hW => by
      have h1 : stOp P ops W i (fun a' => a' = A1) a := by unfold stOp; simp only [ho]; exact hv ⟨W, hW⟩
      exact yieldsAt_of_stOp ho h1
    obtain ⟨v, _, rfl⟩ := hst w hC
    exact anyC_first ho (Region.noSelect_spec hs) r.length listed a w (Region.free_spec ho hf) hr' hC hst (anyC_of_mix hs r _ _ w hB' hm)
  | (i, false) :: r, listed, a, w, hB, h => by
    simp only [permB, Bool.and_eq_true, decide_eq_true_eq] at hB
    obtain ⟨hr, hB'⟩ := hB
    have hr' : i ∈ Region.ready md ops listed := by rw [hr]; simp
    obtain ⟨_, o, ho, _⟩ := mem_ready.1 hr'
    have e : pickP ops ((i, false) :: r) = (o, false) :: pickP ops r := by unfold pickP; simp [ho]
    rw [e] at h
    obtain ⟨hC, hw⟩ := h
    refine ⟨hC, by rw [hr]; simp, fun j hj => ?_⟩
    rw [hr] at hj
    obtain rfl : j = i := by simpa using hj
    have hgo : ∀ (a' : Act) (w' : World), mixC P ops C Q (pickP ops r) a' w' → anyC P md ops C Q r.length (listed.setIfInBounds j true) a' w' := fun a' w' hm => anyC_of_mix hs r _ a' w' hB' hm
    unfold wpOp
    simp only [ho]
    simp only [wpList] at hw
    split
    · rename_i hwt
      rw [if_pos hwt] at hw
      rcases hw with hw | hw
      · left
        unfold Oper.wp at *
        generalize (execOp a.eval o).run P w = res at *
        cases res with
        | ok n w' =>
          cases n <;> simp only [Oper.upon] at hw ⊢
          case value u => exact hgo _ _ hw
          case skip => exact hgo _ _ hw
          case defer d => exact hgo _ _ hw
          case enter f args => exact Calls.mono hw (fun e w'' he => by
            cases e
            · exact hgo _ _ he
            · exact he
            · exact absurd he OnlyN.out)
          case row row args => exact Rows.mono hw (fun v w'' he => hgo _ _ he)
        | halt x w' => cases x <;> simp only [Oper.upon] at hw ⊢ <;> exact hw
      · exact absurd hw.2 OnlyN.out
    · rename_i hwt
      rw [if_neg hwt] at hw
      exact hgo _ _ hw
end
theorem wp_region_mix {P : Program} (C : World → Prop) (perm : List (Nat × Bool)) {id : Nat} {Q : Exit → Act → World → Prop} {a : Act} {w : World} {l : List Oper} (hm : P.follows .mixedOrders = true)
    (hB : (Region.noSelect l.toArray && decide (perm.length = l.length) && permB .any l.toArray perm (Array.replicate l.length false)) = true)
    (h : mixC P l.toArray C Q (pickP l.toArray perm) a w.drew) : (Code.region id l.toArray true).wp P Q a w := by
  simp only [Bool.and_eq_true, decide_eq_true_eq] at hB
  obtain ⟨⟨hs, hl⟩, hp⟩ := hB
  refine Code.wp_mono OnlyN.imp (wp_region_any hm (wpAny_of_anyC (C := C) _ _ _ _ ?_))
  have := anyC_of_mix (C := C) (Q := Q) hs perm (Array.replicate l.length false) a w.drew hp h
  rw [hl] at this
  simpa using this
theorem mix_nil {P : Program} {ops : Array Oper} {C : World → Prop} {Q : Exit → Act → World → Prop} {a : Act} {w : World} (hC : C w) (h : Q .normal a w) : mixC P ops C Q [] a w := ⟨hC, h⟩
theorem still_of_quiet {P : Program} {ops : Array Oper} {o : Oper} {a A1 : Act} {W : World} (h : wpQuiet P ops (fun w' => ∃ _ : Unit, w' = W) (fun a' => a' = A1) [o] a) : wpStill P ops W (fun a' => a' = A1) [o] a := by
  simp only [wpQuiet, wpStill] at *
  split
  · rename_i hw
    rw [if_pos hw] at h
    obtain ⟨v, h1, h2⟩ := h
    have h3 := h1 W ⟨(), rfl⟩
    unfold Oper.quietAt at h3
    unfold Oper.still
    generalize (execOp a.eval o).run P W = r at *
    cases r with
    | ok n w' =>
      cases n <;> simp only [Oper.quietUpon] at h3 <;> simp only [Oper.stillUpon]
      case value u => exact ⟨h3.1, by rw [h3.2]; exact h2⟩
      case skip => exact ⟨h3.1, by rw [← h3.2]; exact h2⟩
      case enter f args => exact ⟨h3.1, v, h3.2.mono fun e w'' he => ⟨he.1, by obtain ⟨_, h⟩ := he.2; exact h⟩, h2⟩
    | halt x w' => simp only [Oper.quietUpon] at h3
  · rename_i hw
    rw [if_neg hw] at h
    exact h
theorem mix_first {P : Program} {ops : Array Oper} {C : World → Prop} {Q : Exit → Act → World → Prop} {o : Oper} {r : List (Oper × Bool)} {a : Act} {w : World}
    (h : ∃ A1, (∀ m : Held C, wpQuiet P ops (fun w' => ∃ _ : Unit, w' = HeldW m) (fun a' => a' = A1) [o] a) ∧ C w ∧ mixC P ops C Q r A1 w) : mixC P ops C Q ((o, true) :: r) a w := by
  obtain ⟨A1, h1, h2, h3⟩ := h
  exact ⟨A1, fun m => still_of_quiet (h1 m), h2, h3⟩
theorem mix_forced {P : Program} {ops : Array Oper} {C : World → Prop} {Q : Exit → Act → World → Prop} {o : Oper} {r : List (Oper × Bool)} {a : Act} {w : World} (hC : C w)
    (h : wpList P ops (OnlyN fun _ a' w' => mixC P ops C Q r a' w') [o] a w) : mixC P ops C Q ((o, false) :: r) a w := ⟨hC, h⟩
end Sw
/- Steps of a reconciliation in memory; what an iterator of steps asks of its caller. -/
set_option linter.unusedVariables false
set_option linter.unusedSimpArgs false
namespace Sw
open Go Go.RowKit
/-- a step's cells -/
def eCR (s : StR) : List Value := [.string s.path, .int .i64 s.verdict, .int .i64 s.cls, .int .i64 s.left.kind, .int .i64 s.left.mode, .int .u32 s.left.time, .string s.left.data, .int .i64 s.right.kind, .int .i64 s.right.mode, .int .u32 s.right.time, .string s.right.data]
theorem eCR_len (s : StR) : (eCR s).length = 11 := rfl
theorem eCR_one (s : StR) : ∀ u ∈ eCR s, u.oneCell' = true := by
  intro u hu
  simp only [eCR, List.mem_cons, List.not_mem_nil, or_false] at hu
  rcases hu with rfl | rfl | rfl | rfl | rfl | rfl | rfl | rfl | rfl | rfl | rfl <;> rfl
/-- all below B0, and all cells that are of none of the types ts, lie as they lay -/
structure KeepR (B0 : Nat) (ts : List TypeId) (A B : World) : Prop where
  low : Below B0 A B
  row : ∀ g t cs, Blk A g t cs → ¬ t ∈ ts → Blk B g t cs
theorem KeepR.trans {B0 : Nat} {ts : List TypeId} {A B C : World} (h : KeepR B0 ts A B) (k : KeepR B0 ts B C) : KeepR B0 ts A C := ⟨h.low.trans k.low, fun g t cs hg ht => k.row g t cs (h.row g t cs hg ht) ht⟩
theorem KeepR.refl (B0 : Nat) (ts : List TypeId) (A : World) : KeepR B0 ts A A := ⟨Below.refl _ _, fun _ _ _ h _ => h⟩
theorem KeepR.below {B0 : Nat} {ts : List TypeId} {A B : World} (h : Below A.heap.size A B) (hB : B0 ≤ A.heap.size) : KeepR B0 ts A B := ⟨h.mono hB, fun g t cs hg _ => hg.below h hg.lt⟩
theorem keepR_b {B0 : Nat} {ts : List TypeId} {W : World} {l : Nat} {o : Obj} (o' : Obj) (hB : B0 ≤ l) (h : W.heap[l]? = some o) (ho : o.isCells = false) : KeepR B0 ts W (W.putObj l o') := by
  have hl : B0 ≤ W.heap.size := by have := (Array.getElem?_eq_some_iff.1 h).1; omega
  have hg := grownBy_putObj' W l o'
  refine ⟨(Below.refl B0 W).grown hg hl (fun k e => by cases e; exact hB), fun g t cs hBl _ => hBl.grown hg (fun e => ?_)⟩
  have e' : g = l := by simpa using e
  subst e'
  unfold Blk at hBl
  rw [h] at hBl
  cases hBl
  cases ho
theorem own_keptR {B0 : Nat} {ts : List TypeId} {A B : World} {base : Nat} {e : TypeId} {size n : Nat} {v : Value} {xs : List Value} (h : A.ownsRow base e size v n xs) (hk : KeepR B0 ts A B) (he : ¬ e ∈ ts) : B.ownsRow base e size v n xs := by
  rcases h.2 with ⟨rfl, h0⟩ | ⟨g, cap, cur, rfl, hb, hh, h1, h2, h3, h4⟩
  · exact ⟨h.1, .inl ⟨rfl, h0⟩⟩
  · exact ⟨h.1, .inr ⟨g, cap, cur, rfl, hb, hk.row _ _ _ hh he, h1, h2, h3, h4⟩⟩
end Sw
namespace Go.Proofs.YtlfeeiloijmagaaGreatDoor
open Go Go.RowKit
open Sw
theorem TreeAt.keptR {B0 : Nat} {ts : List TypeId} {W W' : World} {bt bm : Nat} {X : List NE} (h : TreeAt W bt bm X) (hk : KeepR B0 ts W W') (h1 : ¬ 88 ∈ ts) (h2 : ¬ 106 ∈ ts) (h3 : ¬ 115 ∈ ts) : TreeAt W' bt bm X := by
  refine ⟨hk.row _ _ _ h.box h1, ?_⟩
  obtain ⟨v, hb, ho⟩ := h.map.row
  exact ⟨⟨v, hk.row _ _ _ hb h2, own_keptR ho hk h3⟩, h.map.up, h.map.ok⟩
/-- a row of steps that the call owns -/
def OwnR (w : World) (base : Nat) (u : Value) (l : List StR) : Prop := w.ownsRow base 70 11 u l.length (l.flatMap eCR)
theorem OwnR.app {w1 : World} {base g cap n : Nat} {l : List StR} {x : StR} (h : w1.ownsRow base 70 11 (.slice (some ⟨g, 0, none⟩) (n + 1) cap) (n + 1) (l.flatMap eCR ++ eCR x)) (hn : l.length = n) : OwnR w1 base (.slice (some ⟨g, 0, none⟩) (n + 1) cap) (l ++ [x]) := by
  unfold OwnR
  rw [List.length_append, List.length_singleton, hn, List.flatMap_append]
  simpa using h
theorem OwnR.slv {w : World} {base : Nat} {u : Value} {l : List StR} (h : OwnR w base u l) : SlV w 11 eCR u l := SlV.of_own h eCR_len (by decide)
theorem infoR : (Tryz.prog.info? 70).map (fun i => (i.zero, i.size, i.bytes)) = some (some (.agg #[.string ⟨#[]⟩, .int .i64 0, .int .i64 0, .int .i64 0, .int .i64 0, .int .u32 0, .string ⟨#[]⟩, .int .i64 0, .int .i64 0, .int .u32 0, .string ⟨#[]⟩]), 11, 112) := by kernel_rfl
end Go.Proofs.YtlfeeiloijmagaaGreatDoor
/- A region that draws its order, walked along a tree of orders: as Chain's law, where two operations may be ready at once. Over any program. -/
set_option linter.unusedVariables false
set_option linter.unusedSimpArgs false
namespace Sw
open Go
/-- the orders: 'first': yields the same in the class; 'forced': the only one ready; 'two': one of two -/
inductive PermT where
  | nil : PermT
  | first : Nat → PermT → PermT
  | forced : Nat → PermT → PermT
  | two : Nat → PermT → Nat → PermT → PermT
inductive MixT where
  | nil : MixT
  | first : Oper → MixT → MixT
  | forced : Oper → MixT → MixT
  | two : Oper → MixT → Oper → MixT → MixT
def PermT.depth : PermT → Nat
  | .nil => 0
  | .first _ r => r.depth + 1
  | .forced _ r => r.depth + 1
  | .two _ r _ _ => r.depth + 1
def permBT (md : Region.Mode) (ops : Array Oper) : PermT → Array Bool → Bool
  | .nil, listed => (Region.ready md ops listed).isEmpty
  | .first i r, listed => (Region.ready md ops listed).contains i && Region.free md ops listed i && permBT md ops r (listed.setIfInBounds i true)
  | .forced i r, listed => decide (Region.ready md ops listed = [i]) && permBT md ops r (listed.setIfInBounds i true)
  | .two i r j s, listed => decide (Region.ready md ops listed = [i, j]) && decide (s.depth = r.depth) && permBT md ops r (listed.setIfInBounds i true) && permBT md ops s (listed.setIfInBounds j true)
def pickT (ops : Array Oper) : PermT → MixT
  | .nil => .nil
  | .first i r => match ops[i]? with
    | some o => .first o (pickT ops r)
    | none => .nil
  | .forced i r => match ops[i]? with
    | some o => .forced o (pickT ops r)
    | none => .nil
  | .two i r j s => match ops[i]?, ops[j]? with
    | some o, some p => .two o (pickT ops r) p (pickT ops s)
    | _, _ => .nil
def mixT (P : Program) (ops : Array Oper) (C : World → Prop) (Q : Exit → Act → World → Prop) : MixT → Act → World → Prop
  | .nil, a, w => C w ∧ Q .normal a w
  | .first o r, a, w => ∃ A1, (∀ m : Held C, wpStill P ops (HeldW m) (fun a' => a' = A1) [o] a) ∧ C w ∧ mixT P ops C Q r A1 w
  | .forced o r, a, w => C w ∧ wpList P ops (OnlyN fun _ a' w' => mixT P ops C Q r a' w') [o] a w
  | .two o r p s, a, w => C w ∧ wpList P ops (OnlyN fun _ a' w' => mixT P ops C Q r a' w') [o] a w ∧ wpList P ops (OnlyN fun _ a' w' => mixT P ops C Q s a' w') [p] a w
section
variable {P : Program} {ops : Array Oper} {md : Region.Mode} {Q : Exit → Act → World → Prop} {C : World → Prop}
theorem wpOp_of_list {j : Nat} {o : Oper} (ho : ops[j]? = some o) {K K' : Act → World → Prop} {a : Act} {w : World} (hgo : ∀ a' w', K a' w' → K' a' w') (hw : wpList P ops (OnlyN fun _ a' w' => K a' w') [o] a w) : wpOp P ops (OnlyN Q) j K' a w := by
  unfold wpOp
  simp only [ho]
  simp only [wpList] at hw
  split
  · rename_i hwt
    rw [if_pos hwt] at hw
    rcases hw with hw | hw
    · left
      unfold Oper.wp at *
      generalize (execOp a.eval o).run P w = res at *
      cases res with
      | ok n w' =>
        cases n <;> simp only [Oper.upon] at hw ⊢
        case value u => exact hgo _ _ hw
        case skip => exact hgo _ _ hw
        case defer d => exact hgo _ _ hw
        case enter f args => exact Calls.mono hw (fun e w'' he => by
          cases e
          · exact hgo _ _ he
          · exact he
          · exact absurd he OnlyN.out)
        case row row args => exact Rows.mono hw (fun v w'' he => hgo _ _ he)
      | halt x w' => cases x <;> simp only [Oper.upon] at hw ⊢ <;> exact hw
    · exact absurd hw.2 OnlyN.out
  · rename_i hwt
    rw [if_neg hwt] at hw
    exact hgo _ _ hw
theorem anyC_of_mixT (hs : Region.noSelect ops = true) : ∀ (perm : PermT) (listed : Array Bool) (a : Act) (w : World), permBT md ops perm listed = true → mixT P ops C Q (pickT ops perm) a w → anyC P md ops C Q perm.depth listed a w
  | .nil, listed, a, w, hB, h => ⟨h.1, by simpa [permBT] using hB, h.2⟩
  | .first i r, listed, a, w, hB, h => by
    simp only [permBT, Bool.and_eq_true] at hB
    obtain ⟨⟨hr, hf⟩, hB'⟩ := hB
    have hr' : i ∈ Region.ready md ops listed := by simpa using hr
    obtain ⟨_, o, ho, _⟩ := mem_ready.1 hr'
    simp only [pickT, ho] at h
    obtain ⟨A1, hv, hC, hm⟩ := h
    have hst : ∀ W, C W → ∃ v', YieldsAt P ops W o v' a ∧ a.put o.dst v' = A1 := fun W hW => by
      have h1 : stOp P ops W i (fun a' => a' = A1) a := by unfold stOp; simp only [ho]; exact hv ⟨W, hW⟩
      exact yieldsAt_of_stOp ho h1
    obtain ⟨v, _, rfl⟩ := hst w hC
    exact anyC_first ho (Region.noSelect_spec hs) r.depth listed a w (Region.free_spec ho hf) hr' hC hst (anyC_of_mixT hs r _ _ w hB' hm)
  | .forced i r, listed, a, w, hB, h => by
    simp only [permBT, Bool.and_eq_true, decide_eq_true_eq] at hB
    obtain ⟨hr, hB'⟩ := hB
    have hr' : i ∈ Region.ready md ops listed := by rw [hr]; simp
    obtain ⟨_, o, ho, _⟩ := mem_ready.1 hr'
    simp only [pickT, ho] at h
    obtain ⟨hC, hw⟩ := h
    refine ⟨hC, by rw [hr]; simp, fun j hj => ?_⟩
    rw [hr] at hj
    obtain rfl : j = i := by simpa using hj
    exact wpOp_of_list ho (fun a' w' hm => anyC_of_mixT hs r _ a' w' hB' hm) hw
  | .two i r j s, listed, a, w, hB, h => by
    simp only [permBT, Bool.and_eq_true, decide_eq_true_eq] at hB
    obtain ⟨⟨⟨hr, hd⟩, hB1⟩, hB2⟩ := hB
    have hri : i ∈ Region.ready md ops listed := by rw [hr]; simp
    have hrj : j ∈ Region.ready md ops listed := by rw [hr]; simp
    obtain ⟨_, o, ho, _⟩ := mem_ready.1 hri
    obtain ⟨_, p, hp, _⟩ := mem_ready.1 hrj
    simp only [pickT, ho, hp] at h
    obtain ⟨hC, hw1, hw2⟩ := h
    refine ⟨hC, by rw [hr]; simp, fun k hk => ?_⟩
    rw [hr] at hk
    rcases List.mem_cons.1 hk with rfl | hk
    · exact wpOp_of_list ho (fun a' w' hm => anyC_of_mixT hs r _ a' w' hB1 hm) hw1
    · obtain rfl : k = j := by simpa using hk
      exact wpOp_of_list hp (fun a' w' hm => by
        have := anyC_of_mixT hs s (listed.setIfInBounds k true) a' w' hB2 hm
        rw [hd] at this
        exact this) hw2
end
theorem wp_region_mixT {P : Program} (C : World → Prop) (perm : PermT) {id : Nat} {Q : Exit → Act → World → Prop} {a : Act} {w : World} {l : List Oper} (hm : P.follows .mixedOrders = true)
    (hB : (Region.noSelect l.toArray && decide (perm.depth = l.length) && permBT .any l.toArray perm (Array.replicate l.length false)) = true)
    (h : mixT P l.toArray C Q (pickT l.toArray perm) a w.drew) : (Code.region id l.toArray true).wp P Q a w := by
  simp only [Bool.and_eq_true, decide_eq_true_eq] at hB
  obtain ⟨⟨hs, hl⟩, hp⟩ := hB
  refine Code.wp_mono OnlyN.imp (wp_region_any hm (wpAny_of_anyC (C := C) _ _ _ _ ?_))
  have := anyC_of_mixT (C := C) (Q := Q) hs perm (Array.replicate l.length false) a w.drew hp h
  rw [hl] at this
  simpa using this
section
variable {P : Program} {ops : Array Oper} {C : World → Prop} {Q : Exit → Act → World → Prop} {o p : Oper} {r s : MixT} {a : Act} {w : World}
theorem mixT_nil (hC : C w) (h : Q .normal a w) : mixT P ops C Q .nil a w := ⟨hC, h⟩
theorem mixT_first (h : ∃ A1, (∀ m : Held C, wpQuiet P ops (fun w' => ∃ _ : Unit, w' = HeldW m) (fun a' => a' = A1) [o] a) ∧ C w ∧ mixT P ops C Q r A1 w) : mixT P ops C Q (.first o r) a w := by
  obtain ⟨A1, h1, h2, h3⟩ := h
  exact ⟨A1, fun m => still_of_quiet (h1 m), h2, h3⟩
theorem mixT_forced (hC : C w) (h : wpList P ops (OnlyN fun _ a' w' => mixT P ops C Q r a' w') [o] a w) : mixT P ops C Q (.forced o r) a w := ⟨hC, h⟩
theorem mixT_two (hC : C w) (h1 : wpList P ops (OnlyN fun _ a' w' => mixT P ops C Q r a' w') [o] a w) (h2 : wpList P ops (OnlyN fun _ a' w' => mixT P ops C Q s a' w') [p] a w) : mixT P ops C Q (.two o r p s) a w := ⟨hC, h1, h2⟩
end
end Sw
