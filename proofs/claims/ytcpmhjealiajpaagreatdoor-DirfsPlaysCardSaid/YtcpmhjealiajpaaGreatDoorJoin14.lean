/- Several texts, joined for the limit of sixty files; each one opens with its own comment. -/
import Derived.Test.YtcpmhjealiajpaaGreatDoorJoin4
import Derived.StillTail
import Derived.StillTactics
import Derived.Test.YtcpmhjealiajpaaGreatDoorJoin13
import Derived.Test.YtcpmhjealiajpaaGreatDoorJoin10
/- A region that draws its order, walked in an order of one's own: an operation that yields the same in all worlds of a class may go first; any other one must be the only one that is ready. Over any program. -/
set_option linter.unusedVariables false
set_option linter.unusedSimpArgs false
namespace Sw
open Go
/-- Q where the region goes on, else nothing -/
def OnlyN (Q : Exit → Act → World → Prop) : Exit → Act → World → Prop
  | .normal, a, w => Q .normal a w
  | _, _, _ => False
theorem OnlyN.imp {Q : Exit → Act → World → Prop} : ∀ (e : Exit) (a : Act) (w : World), OnlyN Q e a w → Q e a w := fun e a w h => by
  cases e <;> first | exact h | exact (h : False).elim
theorem OnlyN.out {Q : Exit → Act → World → Prop} : ¬ LetsOut (OnlyN Q) := fun ⟨_, _, h⟩ => h
section
variable {P : Program} {ops : Array Oper} {md : Region.Mode} {Q : Exit → Act → World → Prop} {C : World → Prop}
def anyC (P : Program) (md : Region.Mode) (ops : Array Oper) (C : World → Prop) (Q : Exit → Act → World → Prop) : Nat → Array Bool → Act → World → Prop
  | 0, listed, a, w => C w ∧ Region.ready md ops listed = [] ∧ Q .normal a w
  | f + 1, listed, a, w => C w ∧ Region.ready md ops listed ≠ [] ∧ ∀ i ∈ Region.ready md ops listed, wpOp P ops (OnlyN Q) i (anyC P md ops C Q f (listed.setIfInBounds i true)) a w
theorem anyC_C : ∀ {f : Nat} {listed : Array Bool} {a : Act} {w : World}, anyC P md ops C Q f listed a w → C w
  | 0, _, _, _, h => h.1
  | _ + 1, _, _, _, h => h.1
theorem wpAny_of_anyC : ∀ (f : Nat) (listed : Array Bool) (a : Act) (w : World), anyC P md ops C Q f listed a w → wpAny P md ops (OnlyN Q) f listed a w
  | 0, _, _, _, h => h.2
  | f + 1, listed, a, w, h => ⟨fun h0 => absurd h0 h.2.1, fun i hi => wpOp_mono (fun a w => wpAny_of_anyC f _ a w) (h.2.2 i hi)⟩
theorem upon_put {oj : Oper} {K K' : Act → World → Prop} {a b : Act} (hK : ∀ ds u w', K (({ b with defers := ds ++ b.defers } : Act).put oj.dst u) w' → K' (({ a with defers := ds ++ a.defers } : Act).put oj.dst u) w') : ∀ r : Result Next, oj.upon P b K (OnlyN Q) r → oj.upon P a K' (OnlyN Q) r := fun r h => by
  have h0 : ∀ u w', K (b.put oj.dst u) w' → K' (a.put oj.dst u) w' := fun u w' => hK [] u w'
  cases r with
  | ok n w' =>
    cases n <;> simp only [Oper.upon] at h ⊢
    case value u => exact h0 u w' h
    case skip => exact h0 _ w' h
    case defer d => exact hK [d] _ w' h
    case enter f args => exact Calls.mono h (fun e w'' he => by cases e <;> first | exact h0 _ _ he | exact he)
    case row row args => exact Rows.mono h (fun v w'' he => h0 _ _ he)
  | halt x w' => cases x <;> simp only [Oper.upon] at h ⊢ <;> exact h
theorem wpOp_put {j : Nat} {oi oj : Oper} {v : Value} {a : Act} {w : World} (hj : ops[j]? = some oj) (hap : oi.apart ops oj = true) (hsj : ∀ cs b, oj.op ≠ .select cs b)
    {K K' : Act → World → Prop} (hK : ∀ ds u w', K ((({ a with defers := ds ++ a.defers } : Act).put oj.dst u).put oi.dst v) w' → K' (({ a with defers := ds ++ a.defers } : Act).put oj.dst u) w')
    (h : wpOp P ops (OnlyN Q) j K (a.put oi.dst v) w) : wpOp P ops (OnlyN Q) j K' a w := by
  obtain ⟨h1, h2, h3⟩ := Oper.apart_spec hap
  unfold wpOp at *
  simp only [hj] at *
  rw [wanted_put oj a oi.dst v h1] at h
  have hpd : ∀ (ds : List Deferred) (b : Act) (x : Option Tmp) (u : Value), ({ b.put x u with defers := ds } : Act) = ({ b with defers := ds } : Act).put x u := fun ds b x u => by cases x <;> rfl
  have hdd : ∀ (b : Act) (x : Option Tmp) (u : Value), (b.put x u).defers = b.defers := fun b x u => by cases x <;> rfl
  split
  · rename_i hw
    rw [if_pos hw] at h
    rcases h with h | h
    · left
      unfold Oper.wp at *
      rw [execOp_put oj hsj a oi.dst v h1] at h
      refine upon_put (fun ds u w' hk => hK ds u w' ?_) _ h
      rw [hpd, hdd] at hk
      rw [Act.put_comm _ v u h2] at hk
      exact hk
    · exact absurd h.2 OnlyN.out
  · rename_i hw
    rw [if_neg hw] at h
    refine hK [] undef w ?_
    rw [← Act.put_comm _ v undef h2]
    exact h
theorem anyC_first {i : Nat} {oi : Oper} {v : Value} (hi : ops[i]? = some oi) (hsel : ∀ (j : Nat) (o : Oper) cs b, ops[j]? = some o → o.op ≠ .select cs b) :
    ∀ (f : Nat) (listed : Array Bool) (a : Act) (w : World),
      (∀ j oj, ops[j]? = some oj → j ≠ i → listed.getD j true = false → (∀ e ∈ oj.after, Region.binds md e = true → e.on ≠ i) → oi.apart ops oj = true) →
      i ∈ Region.ready md ops listed → C w → (∀ W, C W → ∃ v', YieldsAt P ops W oi v' a ∧ a.put oi.dst v' = a.put oi.dst v) →
      anyC P md ops C Q f (listed.setIfInBounds i true) (a.put oi.dst v) w → anyC P md ops C Q (f + 1) listed a w := by
  intro f
  induction f with
  | zero =>
    intro listed a w _ hr hC hy H
    refine ⟨hC, fun h => (by rw [h] at hr; cases hr), fun j hj => ?_⟩
    by_cases hji : j = i
    · subst hji
      obtain ⟨v', hy1, hy2⟩ := hy w hC
      exact wpOp_of_stOp (fun a' h' => h') (hy1.stOp (K := fun a' => anyC P md ops C Q 0 (listed.setIfInBounds j true) a' w) hi (by rw [hy2]; exact H))
    · have := ready_mono hj hji
      rw [H.2.1] at this
      cases this
  | succ f ih =>
    intro listed a w hfree hr hC hy H
    have hun := (mem_ready.1 hr).1
    refine ⟨hC, fun h => (by rw [h] at hr; cases hr), fun j hj => ?_⟩
    by_cases hji : j = i
    · subst hji
      obtain ⟨v', hy1, hy2⟩ := hy w hC
      exact wpOp_of_stOp (fun a' h' => h') (hy1.stOp (K := fun a' => anyC P md ops C Q (f + 1) (listed.setIfInBounds j true) a' w) hi (by rw [hy2]; exact H))
    · have h1 := H.2.2 j (ready_mono hj hji)
      obtain ⟨hjun, oj, hoj, hall⟩ := mem_ready.1 hj
      have hnot : ∀ e ∈ oj.after, Region.binds md e = true → e.on ≠ i := fun e he hb heq => by
        have h1 := hall e he hb
        rw [heq, getD_both hun] at h1
        cases h1
      have hap := hfree j oj hoj hji hjun hnot
      have hap3 := (Oper.apart_spec hap)
      refine wpOp_put hoj hap (fun cs b => hsel j oj cs b hoj) (fun ds u w' hk => ?_) h1
      refine ih (listed.setIfInBounds j true) _ w' (fun k ok hk' hki hunk hno => hfree k ok hk' hki (by
        by_cases hjk : j = k
        · subst hjk; exact hjun
        · rw [getD_set_ne true hjk] at hunk; exact hunk) hno) (ready_mono hr (Ne.symm hji)) (anyC_C hk) (fun W hW => ?_) (by rw [Array.setIfInBounds_comm _ _ hji]; exact hk)
      obtain ⟨v', hy1, hy2⟩ := hy W hW
      refine ⟨v', hy1.of_same ?_ ?_, ?_⟩
      · exact execOp_put oi (fun cs b => hsel i oi cs b hi) ({ a with defers := ds ++ a.defers } : Act) oj.dst u hap3.2.2
      · exact wanted_put oi ({ a with defers := ds ++ a.defers } : Act) oj.dst u hap3.2.2
      · have hb : ∀ x, ({ a with defers := ds ++ a.defers } : Act).put oi.dst x = { a.put oi.dst x with defers := ds ++ a.defers } := fun x => by cases oi.dst <;> rfl
        rw [← Act.put_comm _ v' u hap3.2.1, ← Act.put_comm _ v u hap3.2.1, hb, hb, hy2]
/-- the walk in an order of one's own: 'true': yields the same in the class; 'false': forced -/
def mixC (P : Program) (ops : Array Oper) (C : World → Prop) (Q : Exit → Act → World → Prop) : List (Oper × Bool) → Act → World → Prop
  | [], a, w => C w ∧ Q .normal a w
  | (o, true) :: r, a, w => ∃ A1, (∀ m : Held C, wpStill P ops (HeldW m) (fun a' => a' = A1) [o] a) ∧ C w ∧ mixC P ops C Q r A1 w
  | (o, false) :: r, a, w => C w ∧ wpList P ops (OnlyN fun _ a' w' => mixC P ops C Q r a' w') [o] a w
def permB (md : Region.Mode) (ops : Array Oper) : List (Nat × Bool) → Array Bool → Bool
  | [], listed => (Region.ready md ops listed).isEmpty
  | (i, true) :: r, listed => (Region.ready md ops listed).contains i && Region.free md ops listed i && permB md ops r (listed.setIfInBounds i true)
  | (i, false) :: r, listed => decide (Region.ready md ops listed = [i]) && permB md ops r (listed.setIfInBounds i true)
def pickP (ops : Array Oper) (perm : List (Nat × Bool)) : List (Oper × Bool) := perm.filterMap fun p => (ops[p.1]?).map fun o => (o, p.2)
theorem anyC_of_mix (hs : Region.noSelect ops = true) : ∀ (perm : List (Nat × Bool)) (listed : Array Bool) (a : Act) (w : World), permB md ops perm listed = true → mixC P ops C Q (pickP ops perm) a w → anyC P md ops C Q perm.length listed a w
  | [], listed, a, w, hB, h => ⟨h.1, by simpa [permB] using hB, h.2⟩
  | (i, true) :: r, listed, a, w, hB, h => by
    simp only [permB, Bool.and_eq_true] at hB
    obtain ⟨⟨hr, hf⟩, hB'⟩ := hB
    have hr' : i ∈ Region.ready md ops listed := by simpa using hr
    obtain ⟨_, o, ho, _⟩ := mem_ready.1 hr'
    have e : pickP ops ((i, true) :: r) = (o, true) :: pickP ops r := by unfold pickP; simp [ho]
    rw [e] at h
    obtain ⟨A1, hv, hC, hm⟩ := h
    have hst : ∀ W, C W → ∃ v', YieldsAt P ops W o v' a ∧ a.put o.dst v' = A1 := fun W hW => by
      have h1 : stOp P ops W i (fun a' => a' = A1) a := by unfold stOp; simp only [ho]; exact hv ⟨W, hW⟩
      exact yieldsAt_of_stOp ho h1
    obtain ⟨v, _, rfl⟩ := hst w hC
    exact anyC_first ho (Region.noSelect_spec hs) r.length listed a w (Region.free_spec ho hf) hr' hC hst (anyC_of_mix hs r _ _ w hB' hm)
  | (i, false) :: r, listed, a, w, hB, h => by
    simp only [permB, Bool.and_eq_true, decide_eq_true_eq] at hB
    obtain ⟨hr, hB'⟩ := hB
    have hr' : i ∈ Region.ready md ops listed := by rw [hr]; simp
    obtain ⟨_, o, ho, _⟩ := mem_ready.1 hr'
    have e : pickP ops ((i, false) :: r) = (o, false) :: pickP ops r := by unfold pickP; simp [ho]
    rw [e] at h
    obtain ⟨hC, hw⟩ := h
    refine ⟨hC, by rw [hr]; simp, fun j hj => ?_⟩
    rw [hr] at hj
    obtain rfl : j = i := by simpa using hj
    have hgo : ∀ (a' : Act) (w' : World), mixC P ops C Q (pickP ops r) a' w' → anyC P md ops C Q r.length (listed.setIfInBounds j true) a' w' := fun a' w' hm => anyC_of_mix hs r _ a' w' hB' hm
    unfold wpOp
    simp only [ho]
    simp only [wpList] at hw
    split
    · rename_i hwt
      rw [if_pos hwt] at hw
      rcases hw with hw | hw
      · left
        unfold Oper.wp at *
        generalize (execOp a.eval o).run P w = res at *
        cases res with
        | ok n w' =>
          cases n <;> simp only [Oper.upon] at hw ⊢
          case value u => exact hgo _ _ hw
          case skip => exact hgo _ _ hw
          case defer d => exact hgo _ _ hw
          case enter f args => exact Calls.mono hw (fun e w'' he => by
            cases e
            · exact hgo _ _ he
            · exact he
            · exact absurd he OnlyN.out)
          case row row args => exact Rows.mono hw (fun v w'' he => hgo _ _ he)
        | halt x w' => cases x <;> simp only [Oper.upon] at hw ⊢ <;> exact hw
      · exact absurd hw.2 OnlyN.out
    · rename_i hwt
      rw [if_neg hwt] at hw
      exact hgo _ _ hw
end
theorem wp_region_mix {P : Program} (C : World → Prop) (perm : List (Nat × Bool)) {id : Nat} {Q : Exit → Act → World → Prop} {a : Act} {w : World} {l : List Oper} (hm : P.follows .mixedOrders = true)
    (hB : (Region.noSelect l.toArray && decide (perm.length = l.length) && permB .any l.toArray perm (Array.replicate l.length false)) = true)
    (h : mixC P l.toArray C Q (pickP l.toArray perm) a w.drew) : (Code.region id l.toArray true).wp P Q a w := by
  simp only [Bool.and_eq_true, decide_eq_true_eq] at hB
  obtain ⟨⟨hs, hl⟩, hp⟩ := hB
  refine Code.wp_mono OnlyN.imp (wp_region_any hm (wpAny_of_anyC (C := C) _ _ _ _ ?_))
  have := anyC_of_mix (C := C) (Q := Q) hs perm (Array.replicate l.length false) a w.drew hp h
  rw [hl] at this
  simpa using this
theorem mix_nil {P : Program} {ops : Array Oper} {C : World → Prop} {Q : Exit → Act → World → Prop} {a : Act} {w : World} (hC : C w) (h : Q .normal a w) : mixC P ops C Q [] a w := ⟨hC, h⟩
theorem still_of_quiet {P : Program} {ops : Array Oper} {o : Oper} {a A1 : Act} {W : World} (h : wpQuiet P ops (fun w' => ∃ _ : Unit, w' = W) (fun a' => a' = A1) [o] a) : wpStill P ops W (fun a' => a' = A1) [o] a := by
  simp only [wpQuiet, wpStill] at *
  split
  · rename_i hw
    rw [if_pos hw] at h
    obtain ⟨v, h1, h2⟩ := h
    have h3 := h1 W ⟨(), rfl⟩
    unfold Oper.quietAt at h3
    unfold Oper.still
    generalize (execOp a.eval o).run P W = r at *
    cases r with
    | ok n w' =>
      cases n <;> simp only [Oper.quietUpon] at h3 <;> simp only [Oper.stillUpon]
      case value u => exact ⟨h3.1, by rw [h3.2]; exact h2⟩
      case skip => exact ⟨h3.1, by rw [← h3.2]; exact h2⟩
      case enter f args => exact ⟨h3.1, v, h3.2.mono fun e w'' he => ⟨he.1, by obtain ⟨_, h⟩ := he.2; exact h⟩, h2⟩
    | halt x w' => simp only [Oper.quietUpon] at h3
  · rename_i hw
    rw [if_neg hw] at h
    exact h
theorem mix_first {P : Program} {ops : Array Oper} {C : World → Prop} {Q : Exit → Act → World → Prop} {o : Oper} {r : List (Oper × Bool)} {a : Act} {w : World}
    (h : ∃ A1, (∀ m : Held C, wpQuiet P ops (fun w' => ∃ _ : Unit, w' = HeldW m) (fun a' => a' = A1) [o] a) ∧ C w ∧ mixC P ops C Q r A1 w) : mixC P ops C Q ((o, true) :: r) a w := by
  obtain ⟨A1, h1, h2, h3⟩ := h
  exact ⟨A1, fun m => still_of_quiet (h1 m), h2, h3⟩
theorem mix_forced {P : Program} {ops : Array Oper} {C : World → Prop} {Q : Exit → Act → World → Prop} {o : Oper} {r : List (Oper × Bool)} {a : Act} {w : World} (hC : C w)
    (h : wpList P ops (OnlyN fun _ a' w' => mixC P ops C Q r a' w') [o] a w) : mixC P ops C Q ((o, false) :: r) a w := ⟨hC, h⟩
end Sw
/- dirfs: Rename. -/
set_option linter.unusedVariables false
set_option linter.unusedSimpArgs false
namespace Sw
open Go
open Go.Proofs.YtcpmhjealiajpaaGreatDoor (awayT undT eCSN)
theorem ups_data {fr q : ByteArray} (h : fr ∈ upsS q) : q.data.toList = fr.data.toList ++ 47 :: jnL (datL ((spS q).drop (spS fr).length)) := by
  obtain ⟨hlt, htk⟩ := ups_take h
  have hne : (spS q).drop (spS fr).length ≠ [] := fun e => by have := congrArg List.length e; simp at this; omega
  have h1 : jnL (datL (spS q)) = q.data.toList := by rw [datL_spS, jnL_spL]
  have h2 : jnL (datL (spS fr)) = fr.data.toList := by rw [datL_spS, jnL_spL]
  rw [← h1, ← h2]
  conv => lhs; rw [← List.take_append_drop (spS fr).length (spS q)]
  rw [datL_app, ← htk, jnL_append _ _ (datL_ne (spS_ne fr)) (datL_ne hne)]
theorem at_size {fr q : ByteArray} (h : q = fr ∨ fr ∈ upsS q) : fr.size ≤ q.size := by
  rcases h with rfl | h
  · exact Nat.le_refl _
  · have := congrArg List.length (ups_data h)
    simp at this
    omega
/-- a row of entries, the first of them renamed -/
def mvRow (fr tt : ByteArray) (U : List NE) (i : Nat) : List NE := (U.take i).map (mvE fr tt) ++ U.drop i
theorem mvRow_zero (fr tt : ByteArray) (U : List NE) : mvRow fr tt U 0 = U := by simp [mvRow]
theorem mvRow_all (fr tt : ByteArray) (U : List NE) : mvRow fr tt U U.length = U.map (mvE fr tt) := by simp [mvRow]
theorem mvRow_len (fr tt : ByteArray) (U : List NE) (i : Nat) (h : i ≤ U.length) : (mvRow fr tt U i).length = U.length := by simp [mvRow]; omega
theorem mvRow_at (fr tt : ByteArray) (U : List NE) (i : Nat) (h : i < U.length) : (mvRow fr tt U i)[i]'(by rw [mvRow_len _ _ _ _ (by omega)]; exact h) = U[i] := by
  unfold mvRow
  rw [List.getElem_append_right (by simp; omega)]
  simp [Nat.min_eq_left (Nat.le_of_lt h)]
theorem mvRow_set (fr tt : ByteArray) (U : List NE) (i : Nat) (h : i < U.length) : (mvRow fr tt U i).set i (mvE fr tt U[i]) = mvRow fr tt U (i + 1) := by
  unfold mvRow
  have h0 : i - ((U.take i).map (mvE fr tt)).length = 0 := by simp; omega
  rw [List.set_append_right _ _ (by simp; omega), h0, List.drop_eq_getElem_cons h, List.set_cons_zero, List.take_succ_eq_append_getElem h, List.map_append, List.append_assoc]
  rfl
theorem flat_path : ∀ (L : List NE) (i : Nat) (h : i < L.length) (s : ByteArray), (L.flatMap eCSN).set (i * 5) (.string s) = (L.set i (s, L[i].2)).flatMap eCSN
  | [], i, h, s => absurd h (by simp)
  | e :: L, 0, h, s => by simp [eCSN]
  | e :: L, i + 1, h, s => by
    have hl : (eCSN e).length = 5 := rfl
    rw [List.flatMap_cons, List.set_append_right _ _ (by rw [hl]; omega), List.set_cons_succ, List.flatMap_cons]
    congr 1
    rw [hl, show (i + 1) * 5 - 5 = i * 5 by omega]
    exact flat_path L i (by simpa using h) s
end Sw
namespace Go.Proofs.YtcpmhjealiajpaaGreatDoor
open Go Go.RowKit
open Sw
/-- three texts that lie in cells -/
def RnC (gf gt N : Nat) (a b c : ByteArray) (W : World) : Prop := W.cell? ⟨gf, 0, none⟩ = some (.string a) ∧ W.cell? ⟨gt, 0, none⟩ = some (.string b) ∧ W.cell? ⟨N, 0, none⟩ = some (.string c)
theorem RnC.put {gf gt N g o : Nat} {a b c : ByteArray} {W : World} {v : Value} (h : RnC gf gt N a b c W) (h1 : gf ≠ g) (h2 : gt ≠ g) (h3 : N ≠ g) : RnC gf gt N a b c (W.setCell ⟨g, o, none⟩ v) :=
  ⟨(World.cell?_setCell_other W _ _ _ (fun e => h1 (congrArg Addr.block e).symm)).trans h.1, (World.cell?_setCell_other W _ _ _ (fun e => h2 (congrArg Addr.block e).symm)).trans h.2.1, (World.cell?_setCell_other W _ _ _ (fun e => h3 (congrArg Addr.block e).symm)).trans h.2.2⟩
theorem OwnIt.drew' {w : World} {base : Nat} {v : Value} {L : List NE} (h : OwnIt w base v L) : OwnIt w.drew base v L := World.ownsRow.drew h
theorem OwnIt.path {w : World} {base g n cap : Nat} {L : List NE} (h : OwnIt w base (.slice (some ⟨g, 0, none⟩) n cap) L) (i : Nat) (hi : i < L.length) (s : ByteArray) (hL : L.length = n) : OwnIt (w.setCell ⟨g, i * 5, none⟩ (.string s)) base (.slice (some ⟨g, 0, none⟩) n cap) (L.set i (s, L[i].2)) := by
  unfold OwnIt at *
  rw [List.length_set, ← flat_path L i hi s]
  rw [hL] at h ⊢
  exact (h.stored (i * 5) (.string s)).1
theorem putFold_len (L : List NE) : ∀ xs : List NE, (L.foldl putO xs).length ≤ xs.length + L.length := by
  induction L with
  | nil => intro xs; exact Nat.le_refl _
  | cons e L ih => intro xs; have := ih (putO xs e); have h2 := putT_len xs e.1 e.2; simp only [List.foldl_cons, List.length_cons]; have h3 : (putO xs e).length = (putT xs e.1 e.2).length := rfl; omega
set_option maxRecDepth 100000 in
set_option maxHeartbeats 8000000 in
theorem drename1_any (w : World) (bt bm gf gt : Nat) (xs : List NE) (fr tt : ByteArray) (h : TreeAt w bt bm xs) (hti : TI xs) (hn : xs.length ≤ 1000) (hf : fr.size ≤ 90000) (ht : tt.size ≤ 1000) (hsm : ∀ e ∈ xs, e.1.size ≤ 80000 ∧ NdIn e.2)
    (hF : Blk w gf 9 #[.string fr]) (hT : Blk w gt 9 #[.string tt]) :
    Calls Tryz.prog 68 #[.pointer (some ⟨bt, 0, none⟩), .pointer (some ⟨gf, 0, none⟩), .pointer (some ⟨gt, 0, none⟩)] w fun e w' => e = .returned (.int .i64 (renW xs fr tt)) ∧ (renW xs fr tt = 0 → TreeAt w' bt bm (((undT fr xs).map (mvE fr tt)).foldl putO (xs.filter (awayT fr)))) ∧ w.grownBy w' (some bm) := by
  have HTG := Lib.hid (target_any w bt bm xs fr tt h hn hf (by omega))
  have boxes : ∀ W, Below w.heap.size w W → W.cell? ⟨gf, 0, none⟩ = some (.string fr) ∧ W.cell? ⟨gt, 0, none⟩ = some (.string tt) ∧ gf < W.heap.size ∧ gt < W.heap.size := fun W hb =>
    ⟨(hF.below hb hF.lt).cell 0, (hT.below hb hT.lt).cell 0, (hF.below hb hF.lt).lt, (hT.below hb hT.lt).lt⟩
  have HBX := Lib.hid boxes
  obtain ⟨m1, m2, m3, m4⟩ := boxes w (Below.refl _ _)
  have hun : ∀ e ∈ undT fr xs, e ∈ xs ∧ (e.1 = fr ∨ fr ∈ upsS e.1) := fun e he => (und_iff fr xs e).1 he
  have hul : (undT fr xs).length ≤ xs.length := List.length_filter_le _ _
  have HUN := Lib.hid (fun W (h : TreeAt W bt bm xs) => treeUnder_any W bt bm xs fr h hn hf)
  have HEM := Lib.hid (fun W (h : TreeAt W bt bm xs) => emptied_any W bt bm xs fr h hti hn hf)
  have HE := Lib.hid (show renW xs fr tt = if ¬ targetT xs fr tt = 0 then targetT xs fr tt else if ((undT fr xs).all fun e => rightL (mvS fr tt e.1).data.toList) = true then 0 else 4 from rfl)
  have HH := Lib.hid (And.intro h (And.intro hun hsm)); clear h hF hT boxes hun hti
  generalize renW xs fr tt = R at *
  generalize targetT xs fr tt = why at *
  have hflt : (xs.filter (awayT fr)).length ≤ 1000 := Nat.le_trans (List.length_filter_le _ _) hn
  obtain ⟨base, hbase⟩ : ∃ base, xs.filter (awayT fr) = base := ⟨_, rfl⟩
  rw [hbase] at HEM hflt
  rw [hbase]
  clear hbase
  obtain ⟨U, hU⟩ : ∃ U, undT fr xs = U := ⟨_, rfl⟩
  rw [hU] at HUN HE HH hul
  rw [hU]
  clear hU
  obtain ⟨n, hnU⟩ : ∃ n, U.length = n := ⟨_, rfl⟩
  rw [hnU] at hul
  have HL := Lib.hid hnU; clear hnU
  have hn1000 : n ≤ 1000 := by omega
  go_enter Tryz.func68, Tryz.ntmps68
  go_wp2_with fail
  refine HTG.out.mono ?_
  rintro e w1 ⟨rfl, hb1⟩
  have HB1 := Lib.hid hb1
  obtain ⟨q1, q2, q3, q4⟩ := HBX.out w1 hb1
  clear hb1 m1 m2 m3 m4 HTG
  by_cases hw : why = 0
  · have hwe : (why != 0) = false := by rw [hw]; rfl
    have HE2 := Lib.hid (show R = if (U.all fun e => rightL (mvS fr tt e.1).data.toList) = true then 0 else 4 from by rw [HE.out, if_neg (by simpa using hw)]); clear hw
    have HU1 := Lib.hid (HUN.out w1 (HH.out.1.below HB1.out))
    go_wp2_with fail
    refine HU1.out.mono ?_
    rintro e w2 ⟨r, rfl, ho, hb2⟩
    obtain ⟨A2, c2, rfl, _, hcm, _⟩ := SlV_of_any ho
    have hbw2 := HB1.out.trans (hb2.mono HB1.out.size)
    rw [HL.out]
    rw [HL.out] at ho
    have H2 := Lib.hid (And.intro hbw2 (own_wide ho HB1.out.size : OwnIt w2 w.heap.size (.slice A2 n c2) U)); clear hbw2 hb2 ho q1 q2 q3 q4 HU1 HUN
    unfold maxLen at hcm
    go_wp2_with fail
    go_loopw [23] (fun iv wr => ∃ i : Nat, i ≤ n ∧ iv = .int .i64 i ∧ OwnIt wr w.heap.size (.slice A2 n c2) (mvRow fr tt U i) ∧ Below w.heap.size w wr ∧ (∀ k (hk : k < U.length), k < i → rightL (mvS fr tt U[k].1).data.toList = true)) (fun iv _ => n - (intOf iv).toNat)
    case atStart => exact ⟨0, Nat.zero_le _, rfl, by rw [mvRow_zero]; exact H2.out.2, H2.out.1, fun k _ h => absurd h (Nat.not_lt_zero _)⟩
    case round =>
      obtain ⟨i, hi, rfl, ho, hb, hall⟩ := hrel
      obtain ⟨q1, q2, q3, q4⟩ := HBX.out wr hb
      have HALL := Lib.hid hall; clear hall
      by_cases hlt : i < n
      · have hiL : i < U.length := by rw [HL.out]; exact hlt
        have hlM : (mvRow fr tt U i).length = n := by rw [mvRow_len _ _ _ _ (by omega), HL.out]
        have hiM : i < (mvRow fr tt U i).length := by omega
        have hat := mvRow_at fr tt U i hiL
        have hset := mvRow_set fr tt U i hiL
        obtain ⟨g, cap, cur, hv, hge, hbk, _, _, _, _⟩ := own_form (by have := ho; unfold OwnIt at this; rw [hlM] at this; exact this) (by omega)
        obtain ⟨rfl, rfl⟩ : A2 = some ⟨g, 0, none⟩ ∧ c2 = cap := by injection hv with a b c; exact ⟨a, c⟩
        obtain ⟨A', c', ex, -, -, hsl⟩ := ho.slv
        obtain ⟨b', off', ea, hbb, hcs⟩ := hsl (by omega)
        have hA' : (some ⟨g, 0, none⟩ : Option Addr) = A' := by injection ex
        obtain ⟨rfl, rfl⟩ : g = b' ∧ 0 = off' := by rw [ea] at hA'; injection hA' with hA'; injection hA' with a b; exact ⟨a, b⟩
        have c0 := hcs i hiM 0 (by omega)
        have c1 := hcs i hiM 1 (by omega)
        have c2' := hcs i hiM 2 (by omega)
        have c3' := hcs i hiM 3 (by omega)
        have c4 := hcs i hiM 4 (by omega)
        simp only [hat, eCSN, List.getElem?_cons_succ, List.getElem?_cons_zero, Nat.add_zero, Nat.zero_add] at c0 c1 c2' c3' c4
        clear hcs hsl ex hA' ea hv
        have hi1 : (i : Int) < n := by omega
        obtain ⟨hxx, hxa⟩ := HH.out.2.1 U[i] (List.getElem_mem hiL)
        have hxz := at_size hxa
        have hmv := mv_at (tt := tt) hxa
        have hxs := (HH.out.2.2 U[i] hxx).1
        have HN := Lib.hid (show rightL (mvS fr tt U[i].1).data.toList = true → ∀ k (hk : k < U.length), k < i + 1 → rightL (mvS fr tt U[k].1).data.toList = true from fun h k hk hki => by
          by_cases e : k = i
          · subst e; exact h
          · exact HALL.out k hk (by omega))
        have HNO := Lib.hid (show ¬ rightL (mvS fr tt U[i].1).data.toList = true → ¬ (U.all fun e => rightL (mvS fr tt e.1).data.toList) = true from fun h h' => h (List.all_eq_true.1 h' _ (List.getElem_mem hiL)))
        have hown := ho
        unfold OwnIt at hown
        rw [hlM] at hown
        clear hown
        have hba := (Below.refl wr.heap.size wr).alloc (Nat.le_refl _) (.cells #[.string U[i].1, .int .i64 U[i].2.kind, .int .i64 U[i].2.mode, .int .u32 U[i].2.time, .string U[i].2.data] 32)
        have hbN := Blk.new wr 32 #[.string U[i].1, .int .i64 U[i].2.kind, .int .i64 U[i].2.mode, .int .u32 U[i].2.time, .string U[i].2.data]
        have hms : (mvS fr tt U[i].1).size ≤ 200000 := by rw [hmv, ByteArray.size_append, ByteArray.size_extract]; omega
        have hes : (U[i].1.extract fr.size U[i].1.size).size ≤ 90000 := by rw [ByteArray.size_extract]; omega
        obtain ⟨x, hx⟩ : ∃ x, U[i] = x := ⟨_, rfl⟩
        rw [hx] at hat hset
        simp only [hx] at c0 c1 c2' c3' c4 hxz hmv hba hbN HN HNO hms hes
        clear hx hxx hxa hxs
        obtain ⟨W1, hW1⟩ : ∃ W1, wr.alloc (.cells #[.string x.1, .int .i64 x.2.kind, .int .i64 x.2.mode, .int .u32 x.2.time, .string x.2.data] 32) = W1 := ⟨_, rfl⟩
        obtain ⟨N, hN⟩ : ∃ N, wr.heap.size = N := ⟨_, rfl⟩
        rw [hW1] at hba hbN
        rw [hN] at hbN
        have HW1 := Lib.hid (And.intro hW1 hN); clear hW1 hN
        obtain ⟨S, hS⟩ : ∃ S, mvS fr tt x.1 = S := ⟨_, rfl⟩
        have hoA := ho.below hba
        have hox := (hoA.path i hiM S hlM).drew'
        have hfz : W1.frozen? ⟨g, i * 5, none⟩ = false := by
          have hown := hoA
          unfold OwnIt at hown
          rw [hlM] at hown
          exact hown.frozenAt (i * 5)
        have hcz : W1.cell? ⟨g, i * 5, none⟩ = some (.string x.1) := (hba.cell (p := ⟨g, i * 5, none⟩) hbb).trans c0
        simp only [hat] at hox
        rw [show ((S, x.2) : NE) = mvE fr tt x from by unfold mvE; rw [hS], hset] at hox
        have hbx := ((hb.trans (hba.mono hb.size)).setCell (p := ⟨g, i * 5, none⟩) hge (.string S)).drew
        have hcS : (W1.setCell ⟨g, i * 5, none⟩ (.string S)).drew.cell? ⟨g, i * 5, none⟩ = some (.string S) := World.cell?_setCell_same _ _ _ hcz
        obtain ⟨W2, hW2⟩ : ∃ W2, (W1.setCell ⟨g, i * 5, none⟩ (.string S)).drew = W2 := ⟨_, rfl⟩
        rw [hW2] at hox hbx hcS
        rw [hS] at hmv HN HNO hms
        clear hS
        have hxzI : (fr.size : Int) ≤ x.1.size := by omega
        have hb1 := HBX.out W1 (hb.trans (hba.mono hb.size))
        have hRC : RnC gf gt N fr tt x.1 W1 := ⟨hb1.1, hb1.2.1, hbN.cell 0⟩
        have hRD : RnC gf gt N fr tt x.1 W1.drew := hRC
        have k0 : ∀ m : Held (RnC gf gt N fr tt x.1), (HeldW m).cell? ⟨gf, 0, none⟩ = some (.string fr) := fun m => (HeldW_spec m).1
        have k1 : ∀ m : Held (RnC gf gt N fr tt x.1), (HeldW m).cell? ⟨gt, 0, none⟩ = some (.string tt) := fun m => (HeldW_spec m).2.1
        have k2 : ∀ m : Held (RnC gf gt N fr tt x.1), (HeldW m).cell? ⟨N, 0, none⟩ = some (.string x.1) := fun m => (HeldW_spec m).2.2
        have hgN : N ≠ g := by have := HW1.out.2; omega
        have hgfg : gf ≠ g := by have := HBX.out w (Below.refl _ _); omega
        have hgtg : gt ≠ g := by have := HBX.out w (Below.refl _ _); omega
        have hRS : RnC gf gt N fr tt x.1 (W1.setCell ⟨g, i * 5, none⟩ (.string S)).drew := hRC.put (o := i * 5) (v := .string S) hgfg hgtg hgN
        rw [hW2] at hRS
        have HC := Lib.hid (And.intro hRD hRS)
        have HW2 := Lib.hid hW2; clear hW2
        have HS := Lib.hid (And.intro hox (And.intro hbx hmv))
        have HRT := Lib.hid (fun W => right_any W S (by omega))
        clear hox hbx hmv hb hba hbN hoA hbk hge hb1 hat hset ho hRC hRD hRS hgN hgfg hgtg
        go_wp2_with fail
        rw [HW1.out.1, HW1.out.2]
        refine wp_region_mix (RnC gf gt N fr tt x.1) [(0, true), (1, true), (2, true), (3, true), (4, true), (5, true), (6, true), (7, true), (8, true), (9, true), (10, true), (11, false)] (by kernel_rfl) (by kernel_rfl) ?_
        simp only [pickP, List.filterMap_cons, List.filterMap_nil, List.getElem?_toArray, List.getElem?_cons_succ, List.getElem?_cons_zero, Option.map_some]
        repeat (apply mix_first; apply Exists.intro; refine ⟨fun m => ?_, HC.out.1, ?_⟩; · (go_big_quiet_step (fail); exact wpQuiet_nil rfl))
        refine mix_forced HC.out.1 ?_
        go_wp2_with fail
        rw [← HS.out.2.2, HW2.out]
        show mixC _ _ _ _ _ _ _
        refine mix_nil HC.out.2 ?_
        have HR2 := Lib.hid (HRT.out W2)
        clear k0 k1 k2 HC HRT hcz hfz c0 c1 c2' c3' c4 q1 q2 q3 q4
        cases hr : rightL S.data.toList with
        | true =>
          rw [hr] at HR2
          have HN2 := Lib.hid (HN.out hr); clear hr
          go_wp2_with fail
          refine HR2.out.mono ?_
          rintro e w3 ⟨rfl, hb3⟩
          have H3 := Lib.hid (And.intro (HS.out.1.below hb3) (HS.out.2.1.trans (hb3.mono HS.out.2.1.size))); clear hb3 hcS
          go_wp2_with fail
          go_roundw
          case rel => exact ⟨i + 1, by omega, by go_num, H3.out.1, H3.out.2, HN2.out⟩
          case measure => simp [intOf]; omega
        | false =>
          rw [hr] at HR2
          have HF := Lib.hid (show R = 4 from by rw [HE2.out, if_neg (HNO.out (by rw [hr]; simp))]); clear hr
          go_wp2_with fail
          refine HR2.out.mono ?_
          rintro e w3 ⟨rfl, hb3⟩
          have H3 := Lib.hid (grown_below (HS.out.2.1.trans (hb3.mono HS.out.2.1.size)) : w.grownBy w3 (some bm)); clear hb3 hcS
          go_wp2_with fail
          go_ret
          rw [HF.out]
          exact ⟨rfl, fun h => absurd h (by decide), H3.out⟩
      · obtain rfl : n = i := by omega
        have hall : ∀ e ∈ U, rightL (mvS fr tt e.1).data.toList = true := fun e he => by
          obtain ⟨k, hk, rfl⟩ := List.mem_iff_getElem.1 he
          exact HALL.out k hk (by rw [← HL.out]; exact hk)
        have hR0 : R = 0 := by rw [HE2.out, if_pos (List.all_eq_true.2 hall)]
        have hM : mvRow fr tt U n = U.map (mvE fr tt) := by rw [← HL.out]; exact mvRow_all fr tt U
        rw [hM] at ho
        have hTr := HH.out.1.below hb
        have HM := Lib.hid (HEM.out wr hTr)
        have HO := Lib.hid (And.intro hTr (And.intro ho (And.intro (grown_below hb : w.grownBy wr (some bm)) hR0)))
        have HNI := Lib.hid (show ∀ e ∈ U.map (mvE fr tt), e.1.size ≤ 200 ∧ NdIn e.2 from fun e he => by
          obtain ⟨a, ha, rfl⟩ := List.mem_map.1 he
          have hl := (rightL_len (hall a ha)).1
          have hz : (mvS fr tt a.1).data.toList.length = (mvS fr tt a.1).size := by simp
          exact ⟨by show (mvS fr tt a.1).size ≤ 200; omega, (HH.out.2.2 a (HH.out.2.1 a ha).1).2⟩)
        have HLM := Lib.hid (show (U.map (mvE fr tt)).length = n from by rw [List.length_map, HL.out])
        clear hall hR0 hM hTr ho hb HALL
        obtain ⟨M, hM⟩ : ∃ M, U.map (mvE fr tt) = M := ⟨_, rfl⟩
        rw [hM] at HO HNI HLM
        have HMM := Lib.hid hM; clear hM
        go_wp2_with fail
        refine HM.out.mono ?_
        rintro e w3 ⟨rfl, ht3, hg3⟩
        have H3 := Lib.hid (And.intro ht3 (And.intro (own_turn HO.out.1 HO.out.2.1 hg3) (grown_trans HO.out.2.2.1 hg3))); clear ht3 hg3 HM q1 q2 q3 q4
        obtain ⟨wo, hwo⟩ : ∃ wo, wo = wr := ⟨_, rfl⟩
        rw [← hwo] at HO
        clear hwo wr
        go_wp2_with fail
        go_loopw [52] (fun iv wr => ∃ j : Nat, j ≤ n ∧ iv = .int .i64 j ∧ TreeAt wr bt bm ((M.take j).foldl putO base) ∧ OwnIt wr w.heap.size (.slice A2 n c2) M ∧ w.grownBy wr (some bm)) (fun iv _ => n - (intOf iv).toNat)
        case atStart => exact ⟨0, Nat.zero_le _, rfl, H3.out.1, H3.out.2.1, H3.out.2.2⟩
        case round =>
          obtain ⟨j, hj, rfl, ht3, ho, hg⟩ := hrel
          by_cases hlt2 : j < n
          · have hjM : j < M.length := by rw [HLM.out]; exact hlt2
            obtain ⟨A', c', ex, -, -, hsl⟩ := ho.slv
            obtain ⟨rfl, -, rfl⟩ : A2 = A' ∧ n = M.length ∧ c2 = c' := by injection ex with a b c; exact ⟨a, b, c⟩
            obtain ⟨b, off, rfl, hbb, hcs⟩ := hsl (by omega)
            have c0 := hcs j hjM 0 (by omega)
            have c1 := hcs j hjM 1 (by omega)
            have c2' := hcs j hjM 2 (by omega)
            have c3' := hcs j hjM 3 (by omega)
            have c4 := hcs j hjM 4 (by omega)
            simp only [eCSN, List.getElem?_cons_succ, List.getElem?_cons_zero, Nat.add_zero] at c0 c1 c2' c3' c4
            clear hcs hsl ex
            have hj1 : (j : Int) < n := by omega
            obtain ⟨hq, hni⟩ := HNI.out M[j] (List.getElem_mem hjM)
            have hstep : (M.take (j + 1)).foldl putO base = putT ((M.take j).foldl putO base) M[j].1 M[j].2 := by rw [List.take_succ_eq_append_getElem hjM, List.foldl_append]; rfl
            have hlen := putFold_len (M.take j) base
            rw [List.length_take] at hlen
            obtain ⟨⟨q, kd, md, tm, dt⟩, hx⟩ : ∃ x, M[j] = x := ⟨_, rfl⟩
            simp only [hx] at c0 c1 c2' c3' c4 hq hni hstep
            clear hx
            have hba := (Below.refl wr.heap.size wr).alloc (Nat.le_refl _) (.cells #[.string q, .int .i64 kd, .int .i64 md, .int .u32 tm, .string dt] 32)
            have htw := ht3.below hba
            have HPT := Lib.hid (treePut_any _ bt bm _ q ⟨kd, md, tm, dt⟩ htw (by omega) (by omega) (by
              rcases parent_last q with ⟨_, h⟩ | ⟨h, he, _⟩
              · rw [h]; decide
              · rw [← he, List.getLast_eq_getElem]; have := (ups_step q _ (by have := List.length_pos_iff.2 h; omega : (upsS q).length - 1 < (upsS q).length)).2.1; omega) hni)
            have HG := Lib.hid (And.intro (grown_trans hg (grown_below hba)) (And.intro htw (And.intro (ho.below hba) hstep)))
            clear htw hstep hba ht3 ho hg hlen
            simp only [Nd.c] at HPT
            go_wp2_with fail
            refine HPT.out.mono ?_
            rintro e w4 ⟨rfl, ht4, hg4⟩
            have H4 := Lib.hid (And.intro ht4 (And.intro (own_turn HG.out.2.1 HG.out.2.2.1 hg4) (grown_trans HG.out.1 hg4))); clear ht4 hg4 HPT
            go_wp2_with fail
            go_roundw
            case rel => exact ⟨j + 1, by omega, by go_num, by rw [HG.out.2.2.2]; exact H4.out.1, H4.out.2.1, H4.out.2.2⟩
            case measure => simp [intOf]; omega
          · obtain rfl : n = j := by omega
            rw [List.take_of_length_le (by rw [HLM.out]; omega)] at ht3
            have HF := Lib.hid (And.intro ht3 hg); clear ht3 hg ho
            go_wp2_with fail
            go_ret
            rw [HO.out.2.2.2, HMM.out]
            exact ⟨rfl, fun _ => HF.out.1, HF.out.2⟩
  · have hwe : (why != 0) = true := by rw [bne_iff_ne]; exact hw
    have HF := Lib.hid (show R = why from by rw [HE.out, if_pos hw])
    have HW := Lib.hid hw; clear hw
    go_wp2_with fail
    go_ret
    rw [HF.out]
    exact ⟨rfl, fun h => absurd h HW.out, grown_below HB1.out⟩
set_option maxRecDepth 100000 in
set_option maxHeartbeats 4000000 in
theorem dirRename_any (w : World) (bd bt bm : Nat) (s : DS) (k : Nat) (fr tt : ByteArray) (h : DirAt w bd bt bm s) (hti : TI s.xs) (hok : s.Ok k) (hk : k ≤ 1000) (hn : s.xs.length ≤ 500) (hf : fr.size ≤ 90000) (ht : tt.size ≤ 1000) (hsm : ∀ e ∈ s.xs, e.1.size ≤ 80000 ∧ NdIn e.2) :
    Calls Tryz.prog 27 #[.pointer (some ⟨bd, 0, none⟩), .string fr, .string tt] w fun e w' => e = .returned (.int .i64 (stepD s (renW s.xs fr tt) (renT s.xs fr tt)).1) ∧ (∃ bt' bm', DirAt w' bd bt' bm' (stepD s (renW s.xs fr tt) (renT s.xs fr tt)).2) ∧ w.grownBy w' (some bd) := by
  have hb1 := (Below.refl w.heap.size w).alloc (Nat.le_refl _) (.cells #[.string fr] 9)
  have hF1 := Blk.new w 9 #[.string fr]
  obtain ⟨w1, hw1⟩ : ∃ w1, w.alloc (.cells #[.string fr] 9) = w1 := ⟨_, rfl⟩
  obtain ⟨gf, hgf⟩ : ∃ gf, w.heap.size = gf := ⟨_, rfl⟩
  rw [hw1] at hb1 hF1
  rw [hgf] at hF1
  have hb2 := (Below.refl w1.heap.size w1).alloc (Nat.le_refl _) (.cells #[.string tt] 9)
  have hT2 := Blk.new w1 9 #[.string tt]
  obtain ⟨w2, hw2⟩ : ∃ w2, w1.alloc (.cells #[.string tt] 9) = w2 := ⟨_, rfl⟩
  obtain ⟨gt, hgt⟩ : ∃ gt, w1.heap.size = gt := ⟨_, rfl⟩
  rw [hw2] at hb2 hT2
  rw [hgt] at hT2
  have hbw := hb1.trans (hb2.mono hb1.size)
  have hF2 := hF1.below hb2 hF1.lt
  have hd := h.below hbw
  have HG := Lib.hid (grown_below hbw : w.grownBy w2 (some bd))
  have HST := Lib.hid (step_any w2 bd bt bm 68 #[.pointer (some ⟨gf, 0, none⟩), .pointer (some ⟨gt, 0, none⟩)] s k (renW s.xs fr tt) (renT s.xs fr tt) hd hok hk (enters_of Tryz.func68 (by kernel_rfl) rfl)
    (fun W bt' bm' hb htr hbm => (drename1_any W bt' bm' gf gt s.xs fr tt htr hti (by omega) hf ht hsm (hF2.below hb hF2.lt) (hT2.below hb hT2.lt)).mono fun e w' ⟨h1, h2, h3⟩ => ⟨h1, fun h0 => by rw [← (ren_of hti hn h0).puts.1]; exact h2 h0, h3⟩))
  have e1 : gf + 1 = gt := by rw [← hgt, ← hw1, ← hgf]; simp
  have HWW := Lib.hid (And.intro hw1 (And.intro hw2 (And.intro hgf e1)))
  clear hw1 hw2 hgf hgt e1 hb1 hb2 hF1 hT2 hbw hF2 hd h hok hti hsm
  generalize stepD s (renW s.xs fr tt) (renT s.xs fr tt) = R at *
  go_enter Tryz.func27, Tryz.ntmps27
  go_wp2_with fail
  rw [HWW.out.1, HWW.out.2.1, HWW.out.2.2.1, HWW.out.2.2.2]
  refine HST.out.mono ?_
  rintro e w4 ⟨rfl, ⟨bt', bm', hd4⟩, hg4⟩
  have HF := Lib.hid (And.intro hd4 (grown_trans HG.out hg4)); clear hd4 hg4 HST
  go_wp2_with fail
  go_ret
  exact ⟨rfl, ⟨bt', bm', HF.out.1⟩, HF.out.2⟩
end Go.Proofs.YtcpmhjealiajpaaGreatDoor
/- dirfs: New, Get, Tree, Bytes, Fuse, Off, Restart, Ops. -/
set_option linter.unusedVariables false
set_option linter.unusedSimpArgs false
namespace Go.Proofs.YtcpmhjealiajpaaGreatDoor
open Go Go.RowKit
open Sw
set_option maxRecDepth 100000 in
theorem dirNew_any (w : World) (room : Int) :
    Calls Tryz.prog 25 #[.int .i64 room] w fun e w' => ∃ bd bt bm, e = .returned (.pointer (some ⟨bd, 0, none⟩)) ∧ DirAt w' bd bt bm ⟨room, -1, 0, false, []⟩ ∧ w.heap.size ≤ bd ∧ Below w.heap.size w w' := by
  have HN := Lib.hid (treeNew_any w)
  go_enter Tryz.func25, Tryz.ntmps25
  go_wp2_with fail
  refine HN.out.mono ?_
  rintro e w1 ⟨bt, bm, rfl, ht, hbt, hbm, hb1⟩
  have hba := (Below.refl w1.heap.size w1).alloc (Nat.le_refl _) (.cells #[.pointer (some ⟨bt, 0, none⟩), .int .i64 room, .int .i64 (-1), .bool false, .int .i64 0] 88)
  have HF := Lib.hid (And.intro (Blk.new w1 88 #[.pointer (some ⟨bt, 0, none⟩), .int .i64 room, .int .i64 (-1), .bool false, .int .i64 0]) (And.intro (ht.below hba) (hb1.trans (hba.mono hb1.size))))
  have hsz := hb1.size
  clear ht hb1 hba HN
  go_wp2_with fail
  go_ret
  exact ⟨_, bt, bm, rfl, ⟨HF.out.1, HF.out.2.1⟩, hsz, HF.out.2.2⟩
set_option maxRecDepth 100000 in
theorem dirTree_any (w : World) (bd bt bm : Nat) (s : DS) (h : DirAt w bd bt bm s) :
    Calls Tryz.prog 29 #[.pointer (some ⟨bd, 0, none⟩)] w fun e w' => ∃ bt' bm', e = .returned (.pointer (some ⟨bt', 0, none⟩)) ∧ TreeAt w' bt' bm' s.xs ∧ w.heap.size ≤ bm' ∧ Below w.heap.size w w' := by
  have HC := Lib.hid (treeClone_any w bt bm s.xs h.tree)
  have c0 := h.box.cell 0
  simp at c0
  clear h
  go_enter Tryz.func29, Tryz.ntmps29
  go_wp2_with fail
  refine HC.out.mono ?_
  rintro e w1 ⟨bt', bm', rfl, ht, hbt, hbm, hb1⟩
  have HF := Lib.hid (And.intro ht hb1); clear ht hb1 HC
  go_wp2_with fail
  go_ret
  exact ⟨bt', bm', rfl, HF.out.1, hbm, HF.out.2⟩
set_option maxRecDepth 100000 in
theorem dirTreeNil_any (w : World) :
    Calls Tryz.prog 29 #[.pointer none] w fun e w' => ∃ bt' bm', e = .returned (.pointer (some ⟨bt', 0, none⟩)) ∧ TreeAt w' bt' bm' [] ∧ Below w.heap.size w w' := by
  have HC := Lib.hid (treeNew_any w)
  go_enter Tryz.func29, Tryz.ntmps29
  go_wp2_with fail
  refine HC.out.mono ?_
  rintro e w1 ⟨bt', bm', rfl, ht, hbt, hbm, hb1⟩
  have HF := Lib.hid (And.intro ht hb1); clear ht hb1 HC
  go_wp2_with fail
  go_ret
  exact ⟨bt', bm', rfl, HF.out.1, HF.out.2⟩
set_option maxRecDepth 100000 in
theorem dirBytes_any (w : World) (bd bt bm : Nat) (s : DS) (h : DirAt w bd bt bm s) (hn : s.xs.length ≤ 1000000) (hby : bytesT s.xs ≤ 1000000000) :
    Calls Tryz.prog 44 #[.pointer (some ⟨bd, 0, none⟩)] w fun e w' => e = .returned (.int .i64 (bytesT s.xs)) ∧ Below w.heap.size w w' := by
  have HC := Lib.hid (dirTree_any w bd bt bm s h)
  clear h
  go_enter Tryz.func44, Tryz.ntmps44
  go_wp2_with fail
  refine HC.out.mono ?_
  rintro e w1 ⟨bt', bm', rfl, ht, hbm, hb1⟩
  have HB := Lib.hid (treeBytes_any w1 bt' bm' s.xs ht hn hby)
  have HF := Lib.hid hb1; clear ht hb1 HC
  go_wp2_with fail
  refine HB.out.mono ?_
  rintro e w2 ⟨rfl, hb2⟩
  have HG := Lib.hid (HF.out.trans (hb2.mono HF.out.size)); clear hb2
  go_wp2_with fail
  go_ret
  exact ⟨rfl, HG.out⟩
set_option maxRecDepth 100000 in
theorem dirBytesNil_any (w : World) :
    Calls Tryz.prog 44 #[.pointer none] w fun e w' => e = .returned (.int .i64 0) ∧ Below w.heap.size w w' := by
  have HC := Lib.hid (dirTreeNil_any w)
  go_enter Tryz.func44, Tryz.ntmps44
  go_wp2_with fail
  refine HC.out.mono ?_
  rintro e w1 ⟨bt', bm', rfl, ht, hb1⟩
  have hB := treeBytes_any w1 bt' bm' [] ht (by decide) (by decide)
  rw [show bytesT [] = 0 from rfl] at hB
  have HB := Lib.hid hB
  have HF := Lib.hid hb1; clear ht hb1 HC hB
  go_wp2_with fail
  refine HB.out.mono ?_
  rintro e w2 ⟨rfl, hb2⟩
  have HG := Lib.hid (HF.out.trans (hb2.mono HF.out.size)); clear hb2
  go_wp2_with fail
  go_ret
  exact ⟨rfl, HG.out⟩
set_option maxRecDepth 100000 in
theorem dirOff_any (w : World) (bd bt bm : Nat) (s : DS) (h : DirAt w bd bt bm s) :
    Calls Tryz.prog 42 #[.pointer (some ⟨bd, 0, none⟩)] w fun e w' => e = .returned (.bool s.off) ∧ w = w' := by
  have c0 := h.box.cell 3
  simp at c0
  clear h
  go_enter Tryz.func42, Tryz.ntmps42
  go_wp2_with fail
  go_ret
  exact ⟨rfl, rfl⟩
set_option maxRecDepth 100000 in
theorem dirOffNil_any (w : World) :
    Calls Tryz.prog 42 #[.pointer none] w fun e w' => e = .returned (.bool false) ∧ w = w' := by
  go_enter Tryz.func42, Tryz.ntmps42
  go_wp2_with fail
  go_ret
  exact ⟨rfl, rfl⟩
set_option maxRecDepth 100000 in
theorem dirOps_any (w : World) (bd bt bm : Nat) (s : DS) (h : DirAt w bd bt bm s) :
    Calls Tryz.prog 43 #[.pointer (some ⟨bd, 0, none⟩)] w fun e w' => e = .returned (.int .i64 s.ops) ∧ w = w' := by
  have c0 := h.box.cell 4
  simp at c0
  clear h
  go_enter Tryz.func43, Tryz.ntmps43
  go_wp2_with fail
  go_ret
  exact ⟨rfl, rfl⟩
set_option maxRecDepth 100000 in
theorem dirOpsNil_any (w : World) :
    Calls Tryz.prog 43 #[.pointer none] w fun e w' => e = .returned (.int .i64 0) ∧ w = w' := by
  go_enter Tryz.func43, Tryz.ntmps43
  go_wp2_with fail
  go_ret
  exact ⟨rfl, rfl⟩
set_option maxRecDepth 100000 in
set_option maxHeartbeats 1000000 in
theorem dirFuse_any (w : World) (bd bt bm : Nat) (s : DS) (n : Int) (h : DirAt w bd bt bm s) :
    Calls Tryz.prog 40 #[.pointer (some ⟨bd, 0, none⟩), .int .i64 n] w fun e w' => e = .returned (.tuple #[]) ∧ DirAt w' bd bt bm { s with fuse := max n (-1) } ∧ w.grownBy w' (some bd) := by
  obtain ⟨room, fuse, ops, off, xs⟩ := s
  have hb := h.box
  have c2 := hb.cell 2
  have f2 := hb.frozen 2
  simp at c2
  have HH := Lib.hid (And.intro h hb); clear h hb
  obtain ⟨F, hF⟩ : ∃ F, max n (-1) = F := ⟨_, rfl⟩
  go_enter Tryz.func40, Tryz.ntmps40
  go_wp2_with fail
  go_end0
  exact ⟨rfl, ⟨by have := HH.out.2.put 2 (.int .i64 F); simpa using this, HH.out.1.tree.far HH.out.2 (by decide) (by decide) (by decide) (grown_put (grown_refl _ _) 2 _)⟩, grown_put (grown_refl _ _) 2 _⟩
set_option maxRecDepth 100000 in
theorem dirFuseNil_any (w : World) (n : Int) :
    Calls Tryz.prog 40 #[.pointer none, .int .i64 n] w fun e w' => e = .returned (.tuple #[]) ∧ w = w' := by
  go_enter Tryz.func40, Tryz.ntmps40
  go_wp2_with fail
  go_end0
  exact ⟨rfl, rfl⟩
set_option maxRecDepth 100000 in
theorem dirRestartNil_any (w : World) :
    Calls Tryz.prog 41 #[.pointer none] w fun e w' => e = .returned (.tuple #[]) ∧ w = w' := by
  go_enter Tryz.func41, Tryz.ntmps41
  go_wp2_with fail
  go_end0
  exact ⟨rfl, rfl⟩
set_option maxRecDepth 100000 in
set_option maxHeartbeats 1000000 in
theorem dirRestart_any (w : World) (bd bt bm : Nat) (s : DS) (h : DirAt w bd bt bm s) :
    Calls Tryz.prog 41 #[.pointer (some ⟨bd, 0, none⟩)] w fun e w' => e = .returned (.tuple #[]) ∧ DirAt w' bd bt bm { s with fuse := -1, off := false } ∧ w.grownBy w' (some bd) := by
  obtain ⟨room, fuse, ops, off, xs⟩ := s
  have hb := h.box
  have c2 := hb.cell 2
  have f2 := hb.frozen 2
  have c3 := hb.cell 3
  have f3 := hb.frozen 3
  simp at c2 c3
  have HH := Lib.hid (And.intro h hb); clear h hb
  go_enter Tryz.func41, Tryz.ntmps41
  go_wp2_with fail
  go_end0
  exact ⟨rfl, ⟨by have := (HH.out.2.put 3 (.bool false)).put 2 (.int .i64 (-1)); simpa using this, HH.out.1.tree.far HH.out.2 (by decide) (by decide) (by decide) (grown_put (grown_put (grown_refl _ _) 3 _) 2 _)⟩, grown_put (grown_put (grown_refl _ _) 3 _) 2 _⟩
end Go.Proofs.YtcpmhjealiajpaaGreatDoor
/- dirfs: Get; what is asked of nil; the law's example. -/
set_option linter.unusedVariables false
set_option linter.unusedSimpArgs false
namespace Go.Proofs.YtcpmhjealiajpaaGreatDoor
open Go Go.RowKit
open Sw
set_option maxRecDepth 100000 in
set_option maxHeartbeats 4000000 in
theorem dirGet_any (w : World) (bd bt bm : Nat) (s : DS) (p : ByteArray) (h : DirAt w bd bt bm s) (hn : s.xs.length ≤ 1000000) (hp : p.size ≤ 90000) :
    Calls Tryz.prog 28 #[.pointer (some ⟨bd, 0, none⟩), .string p] w fun e w' => e = .returned (.agg (getT s.xs p).c) ∧ Below w.heap.size w w' := by
  have hb0 := (Below.refl w.heap.size w).alloc (Nat.le_refl _) (.cells #[.int .i64 0, .int .i64 0, .int .u32 0, .string ⟨#[]⟩] 30)
  have hB0 := Blk.new w 30 #[.int .i64 0, .int .i64 0, .int .u32 0, .string ⟨#[]⟩]
  have hT := h.below hb0
  have HG := Lib.hid (treeGet_any _ bt bm s.xs p hT.tree hn hp)
  have c0 := hT.box.cell 0
  simp at c0
  have H0 := Lib.hid (And.intro hb0 hB0); clear hb0 hB0 hT h
  obtain ⟨n, hn2⟩ : ∃ n, getT s.xs p = n := ⟨_, rfl⟩
  rw [hn2] at HG
  rw [hn2]
  obtain ⟨kd, md, tm, dt⟩ := n
  unfold Nd.c at *
  simp only at HG ⊢
  clear hn2
  go_enter Tryz.func28, Tryz.ntmps28
  go_wp2_with fail
  refine HG.out.mono ?_
  rintro e w1 ⟨rfl, hb1⟩
  have hB1 := H0.out.2.below hb1 H0.out.2.lt
  have hbw := H0.out.1.trans (hb1.mono H0.out.1.size)
  have x0 := hB1.cell 0
  have x1 := hB1.cell 1
  have x2 := hB1.cell 2
  have x3 := hB1.cell 3
  have f0 := hB1.frozen 0
  have f1 := hB1.frozen 1
  have f2 := hB1.frozen 2
  have f3 := hB1.frozen 3
  simp at x0 x1 x2 x3
  have HF := Lib.hid (And.intro hB1 hbw); clear hB1 hbw hb1
  go_wp2_with fail
  refine bodyPost_ret (v := .agg #[.int .i64 kd, .int .i64 md, .int .u32 tm, .string dt]) (results_cell_row rfl _ _ w.heap.size 30 #[.int .i64 kd, .int .i64 md, .int .u32 tm, .string dt] (0, 0) _ rfl ((((HF.out.1.put 0 (.int .i64 kd)).put 1 (.int .i64 md)).put 2 (.int .u32 tm)).put 3 (.string dt)) Tryz.underlying30 rfl infoVSN) rfl ⟨rfl, ?_⟩
  exact (((HF.out.2.setCell (p := ⟨w.heap.size, 0, none⟩) (Nat.le_refl _) (.int .i64 kd)).setCell (p := ⟨w.heap.size, 1, none⟩) (Nat.le_refl _) (.int .i64 md)).setCell (p := ⟨w.heap.size, 2, none⟩) (Nat.le_refl _) (.int .u32 tm)).setCell (p := ⟨w.heap.size, 3, none⟩) (Nat.le_refl _) (.string dt)
set_option maxRecDepth 100000 in
set_option maxHeartbeats 4000000 in
theorem dirGetNil_any (w : World) (p : ByteArray) :
    Calls Tryz.prog 28 #[.pointer none, .string p] w fun e w' => e = .returned (.agg ndZ.c) ∧ Below w.heap.size w w' := by
  have hb0 := (Below.refl w.heap.size w).alloc (Nat.le_refl _) (.cells #[.int .i64 0, .int .i64 0, .int .u32 0, .string ⟨#[]⟩] 30)
  have hB0 := Blk.new w 30 #[.int .i64 0, .int .i64 0, .int .u32 0, .string ⟨#[]⟩]
  have HF := Lib.hid (And.intro hB0 hb0)
  have x0 := hB0.cell 0
  have x1 := hB0.cell 1
  have x2 := hB0.cell 2
  have x3 := hB0.cell 3
  have f0 := hB0.frozen 0
  have f1 := hB0.frozen 1
  have f2 := hB0.frozen 2
  have f3 := hB0.frozen 3
  simp at x0 x1 x2 x3
  clear hb0 hB0
  unfold ndZ Nd.c
  go_enter Tryz.func28, Tryz.ntmps28
  go_wp2_with fail
  exact bodyPost_ret (v := .agg #[.int .i64 0, .int .i64 0, .int .u32 0, .string ⟨#[]⟩]) (results_cell_row rfl _ _ w.heap.size 30 #[.int .i64 0, .int .i64 0, .int .u32 0, .string ⟨#[]⟩] (0, 0) _ rfl HF.out.1 Tryz.underlying30 rfl infoVSN) rfl ⟨rfl, HF.out.2⟩
set_option maxRecDepth 100000 in
theorem stepNil_any (w : World) (f : Nat) (caps : Array Value) : Calls Tryz.prog 65 #[.pointer none, .func (.func f) #[] caps] w fun e w' => e = .returned (.int .i64 1) ∧ w = w' := by
  go_enter Tryz.func65, Tryz.ntmps65
  go_wp2_with fail
  go_ret
  exact ⟨rfl, rfl⟩
set_option maxRecDepth 100000 in
theorem dirPutNil_any (w : World) (p : ByteArray) (n : Nd) : Calls Tryz.prog 26 #[.pointer none, .string p, .agg n.c] w fun e w' => e = .returned (.int .i64 1) ∧ Below w.heap.size w w' := by
  have HS := Lib.hid (fun W f caps => stepNil_any W f caps)
  have HB := Lib.hid ((((Below.refl w.heap.size w).alloc (Nat.le_refl _) (.cells #[.pointer none] 50)).alloc (by simp) (.cells #[.string p] 9)).alloc (by simp; omega) (.cells n.c 30))
  obtain ⟨kd, md, tm, dt⟩ := n
  simp only [Nd.c] at HB ⊢
  go_enter Tryz.func26, Tryz.ntmps26
  go_wp2_with fail
  refine (HS.out _ _ _).mono ?_
  rintro e _ ⟨rfl, rfl⟩
  go_wp2_with fail
  go_ret
  exact ⟨rfl, HB.out⟩
set_option maxRecDepth 100000 in
theorem dirRemoveNil_any (w : World) (p : ByteArray) : Calls Tryz.prog 33 #[.pointer none, .string p] w fun e w' => e = .returned (.int .i64 1) ∧ Below w.heap.size w w' := by
  have HS := Lib.hid (fun W f caps => stepNil_any W f caps)
  have HB := Lib.hid ((Below.refl w.heap.size w).alloc (Nat.le_refl _) (.cells #[.string p] 9))
  go_enter Tryz.func33, Tryz.ntmps33
  go_wp2_with fail
  refine (HS.out _ _ _).mono ?_
  rintro e _ ⟨rfl, rfl⟩
  go_wp2_with fail
  go_ret
  exact ⟨rfl, HB.out⟩
set_option maxRecDepth 100000 in
theorem dirClearNil_any (w : World) (p : ByteArray) : Calls Tryz.prog 30 #[.pointer none, .string p] w fun e w' => e = .returned (.int .i64 1) ∧ Below w.heap.size w w' := by
  have HS := Lib.hid (fun W f caps => stepNil_any W f caps)
  have HB := Lib.hid ((Below.refl w.heap.size w).alloc (Nat.le_refl _) (.cells #[.string p] 9))
  go_enter Tryz.func30, Tryz.ntmps30
  go_wp2_with fail
  refine (HS.out _ _ _).mono ?_
  rintro e _ ⟨rfl, rfl⟩
  go_wp2_with fail
  go_ret
  exact ⟨rfl, HB.out⟩
set_option maxRecDepth 100000 in
theorem dirRenameNil_any (w : World) (p q : ByteArray) : Calls Tryz.prog 27 #[.pointer none, .string p, .string q] w fun e w' => e = .returned (.int .i64 1) ∧ Below w.heap.size w w' := by
  have HS := Lib.hid (fun W f caps => stepNil_any W f caps)
  have HB := Lib.hid (((Below.refl w.heap.size w).alloc (Nat.le_refl _) (.cells #[.string p] 9)).alloc (by simp) (.cells #[.string q] 9))
  go_enter Tryz.func27, Tryz.ntmps27
  go_wp2_with fail
  refine (HS.out _ _ _).mono ?_
  rintro e _ ⟨rfl, rfl⟩
  go_wp2_with fail
  go_ret
  exact ⟨rfl, HB.out⟩
set_option maxRecDepth 100000 in
theorem dirGraftNil_any (w : World) (p : ByteArray) : Calls Tryz.prog 37 #[.pointer none, .string p, .slice none 0 0] w fun e w' => e = .returned (.int .i64 1) ∧ Below w.heap.size w w' := by
  have HS := Lib.hid (fun W f caps => stepNil_any W f caps)
  have HB := Lib.hid ((((Below.refl w.heap.size w).alloc (Nat.le_refl _) (.cells #[.pointer none] 50)).alloc (by simp) (.cells #[.string p] 9)).alloc (by simp; omega) (.cells #[.slice none 0 0] 22))
  go_enter Tryz.func37, Tryz.ntmps37
  go_wp2_with fail
  refine (HS.out _ _ _).mono ?_
  rintro e _ ⟨rfl, rfl⟩
  go_wp2_with fail
  go_ret
  exact ⟨rfl, HB.out⟩
end Go.Proofs.YtcpmhjealiajpaaGreatDoor
/- The document's example of trees. -/
set_option linter.unusedVariables false
set_option linter.unusedSimpArgs false
namespace Sw
def dirL : Nd := ⟨2, 0, 0, ⟨#[]⟩⟩
def aS : ByteArray := ⟨#[97]⟩
def abS : ByteArray := ⟨#[97, 47, 98]⟩
theorem lives_may : mayT [] abS dirL = 7 ∧ mayT [] aS dirL = 0 ∧ mayT [(aS, dirL)] abS dirL = 0 := ⟨by kernel_rfl, by kernel_rfl, by kernel_rfl⟩
theorem lives_put : putT [] abS dirL = [] ∧ putT [] aS dirL = [(aS, dirL)] ∧ putT [(aS, dirL)] abS dirL = [(aS, dirL), (abS, dirL)] := ⟨by kernel_rfl, by kernel_rfl, by kernel_rfl⟩
theorem lives_par : (parentS abS).size = 1 ∧ (parentS aS).size = 0 := ⟨by kernel_rfl, by kernel_rfl⟩
end Sw
namespace Go.Proofs.YtcpmhjealiajpaaGreatDoor
open Go Go.RowKit Go.Shelf
open Sw
theorem dirL_in : NdIn dirL := ⟨by decide, by decide, by decide⟩
set_option maxRecDepth 100000 in
set_option maxHeartbeats 2000000 in
theorem lives16 (w : World) : Calls Tryz.prog 8 #[] w fun e w' => e = .returned (.bool true) ∧ Below w.heap.size w w' := by
  have HN := Lib.hid (treeNew_any w)
  go_enter Tryz.func8, Tryz.ntmps8
  go_wp2_with fail
  refine HN.out.mono ?_
  rintro e w1 ⟨bt, bm, rfl, ht, hbt, hbm, hb1⟩
  have h1 := treePut_any w1 bt bm [] abS dirL ht (by decide) (by decide) (by rw [lives_par.1]; omega) dirL_in
  rw [lives_may.1, lives_put.1] at h1
  simp only [Nd.c, dirL, abS] at h1
  have H1 := Lib.hid h1
  have HB1 := Lib.hid hb1; clear h1 hb1 ht HN
  go_wp2_with fail
  refine H1.out.mono ?_
  rintro e w2 ⟨rfl, ht, hg2⟩
  have HB2 := Lib.hid (below_grown HB1.out hg2 hbm HB1.out.size)
  have h1 := treePut_any w2 bt bm [] aS dirL ht (by decide) (by decide) (by rw [lives_par.2]; omega) dirL_in
  rw [lives_may.2.1, lives_put.2.1] at h1
  simp only [Nd.c, dirL, aS] at h1
  have H2 := Lib.hid h1; clear h1 hg2 ht H1 HB1
  go_wp2_with fail
  refine H2.out.mono ?_
  rintro e w3 ⟨rfl, ht, hg3⟩
  have HB3 := Lib.hid (below_grown HB2.out hg3 hbm HB2.out.size)
  have h1 := treePut_any w3 bt bm [(aS, dirL)] abS dirL ht (by decide) (by decide) (by rw [lives_par.1]; omega) dirL_in
  rw [lives_may.2.2, lives_put.2.2] at h1
  simp only [Nd.c, dirL, abS] at h1
  have H3 := Lib.hid h1; clear h1 hg3 ht H2 HB2
  go_wp2_with fail
  refine H3.out.mono ?_
  rintro e w4 ⟨rfl, ht, hg4⟩
  have HB4 := Lib.hid (below_grown HB3.out hg4 hbm HB3.out.size)
  have H4 := Lib.hid ((treeLen_any w4 bt bm _ ht).mono (fun e w' h => (⟨h.1, h.2⟩ : e = .returned (.int .i64 2) ∧ w4 = w'))); clear hg4 ht H3 HB3
  go_wp2_with fail
  refine H4.out.mono ?_
  rintro e w5 ⟨rfl, rfl⟩
  go_wp2_with fail
  go_ret
  exact ⟨rfl, HB4.out⟩
end Go.Proofs.YtcpmhjealiajpaaGreatDoor
