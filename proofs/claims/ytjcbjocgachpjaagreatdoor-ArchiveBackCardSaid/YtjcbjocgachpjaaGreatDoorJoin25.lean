/- Several texts, joined for the limit of sixty files; each one opens with its own comment. -/
import Derived.Test.YtjcbjocgachpjaaGreatDoorJoin5
import Derived.StillTail
import Derived.StillTactics
import Derived.Test.YtjcbjocgachpjaaGreatDoorJoin24
/- A region that draws its order, walked in an order of one's own: an operation that yields the same in all worlds of a class may go first; any other one must be the only one that is ready. Over any program. -/
set_option linter.unusedVariables false
set_option linter.unusedSimpArgs false
namespace Sw
open Go
/-- Q where the region goes on, else nothing -/
def OnlyN (Q : Exit → Act → World → Prop) : Exit → Act → World → Prop
  | .normal, a, w => Q .normal a w
  | _, _, _ => False
theorem OnlyN.imp {Q : Exit → Act → World → Prop} : ∀ (e : Exit) (a : Act) (w : World), OnlyN Q e a w → Q e a w := fun e a w h => by
  cases e <;> first | exact h | exact (h : False).elim
theorem OnlyN.out {Q : Exit → Act → World → Prop} : ¬ LetsOut (OnlyN Q) := fun ⟨_, _, h⟩ => h
section
variable {P : Program} {ops : Array Oper} {md : Region.Mode} {Q : Exit → Act → World → Prop} {C : World → Prop}
def anyC (P : Program) (md : Region.Mode) (ops : Array Oper) (C : World → Prop) (Q : Exit → Act → World → Prop) : Nat → Array Bool → Act → World → Prop
  | 0, listed, a, w => C w ∧ Region.ready md ops listed = [] ∧ Q .normal a w
  | f + 1, listed, a, w => C w ∧ Region.ready md ops listed ≠ [] ∧ ∀ i ∈ Region.ready md ops listed, wpOp P ops (OnlyN Q) i (anyC P md ops C Q f (listed.setIfInBounds i true)) a w
theorem anyC_C : ∀ {f : Nat} {listed : Array Bool} {a : Act} {w : World}, anyC P md ops C Q f listed a w → C w
  | 0, _, _, _, h => h.1
  | _ + 1, _, _, _, h => h.1
theorem wpAny_of_anyC : ∀ (f : Nat) (listed : Array Bool) (a : Act) (w : World), anyC P md ops C Q f listed a w → wpAny P md ops (OnlyN Q) f listed a w
  | 0, _, _, _, h => h.2
  | f + 1, listed, a, w, h => ⟨fun h0 => absurd h0 h.2.1, fun i hi => wpOp_mono (fun a w => wpAny_of_anyC f _ a w) (h.2.2 i hi)⟩
theorem upon_put {oj : Oper} {K K' : Act → World → Prop} {a b : Act} (hK : ∀ ds u w', K (({ b with defers := ds ++ b.defers } : Act).put oj.dst u) w' → K' (({ a with defers := ds ++ a.defers } : Act).put oj.dst u) w') : ∀ r : Result Next, oj.upon P b K (OnlyN Q) r → oj.upon P a K' (OnlyN Q) r := fun r h => by
  have h0 : ∀ u w', K (b.put oj.dst u) w' → K' (a.put oj.dst u) w' := fun u w' => hK [] u w'
  cases r with
  | ok n w' =>
    cases n <;> simp only [Oper.upon] at h ⊢
    case value u => exact h0 u w' h
    case skip => exact h0 _ w' h
    case defer d => exact hK [d] _ w' h
    case enter f args => exact Calls.mono h (fun e w'' he => by cases e <;> first | exact h0 _ _ he | exact he)
    case row row args => exact Rows.mono h (fun v w'' he => h0 _ _ he)
  | halt x w' => cases x <;> simp only [Oper.upon] at h ⊢ <;> exact h
theorem wpOp_put {j : Nat} {oi oj : Oper} {v : Value} {a : Act} {w : World} (hj : ops[j]? = some oj) (hap : oi.apart ops oj = true) (hsj : ∀ cs b, oj.op ≠ .select cs b)
    {K K' : Act → World → Prop} (hK : ∀ ds u w', K ((({ a with defers := ds ++ a.defers } : Act).put oj.dst u).put oi.dst v) w' → K' (({ a with defers := ds ++ a.defers } : Act).put oj.dst u) w')
    (h : wpOp P ops (OnlyN Q) j K (a.put oi.dst v) w) : wpOp P ops (OnlyN Q) j K' a w := by
  obtain ⟨h1, h2, h3⟩ := Oper.apart_spec hap
  unfold wpOp at *
  simp only [hj] at *
  rw [wanted_put oj a oi.dst v h1] at h
  have hpd : ∀ (ds : List Deferred) (b : Act) (x : Option Tmp) (u : Value), ({ b.put x u with defers := ds } : Act) = ({ b with defers := ds } : Act).put x u := fun ds b x u => by cases x <;> rfl
  have hdd : ∀ (b : Act) (x : Option Tmp) (u : Value), (b.put x u).defers = b.defers := fun b x u => by cases x <;> rfl
  split
  · rename_i hw
    rw [if_pos hw] at h
    rcases h with h | h
    · left
      unfold Oper.wp at *
      rw [execOp_put oj hsj a oi.dst v h1] at h
      refine upon_put (fun ds u w' hk => hK ds u w' ?_) _ h
      rw [hpd, hdd] at hk
      rw [Act.put_comm _ v u h2] at hk
      exact hk
    · exact absurd h.2 OnlyN.out
  · rename_i hw
    rw [if_neg hw] at h
    refine hK [] undef w ?_
    rw [← Act.put_comm _ v undef h2]
    exact h
theorem anyC_first {i : Nat} {oi : Oper} {v : Value} (hi : ops[i]? = some oi) (hsel : ∀ (j : Nat) (o : Oper) cs b, ops[j]? = some o → o.op ≠ .select cs b) :
    ∀ (f : Nat) (listed : Array Bool) (a : Act) (w : World),
      (∀ j oj, ops[j]? = some oj → j ≠ i → listed.getD j true = false → (∀ e ∈ oj.after, Region.binds md e = true → e.on ≠ i) → oi.apart ops oj = true) →
      i ∈ Region.ready md ops listed → C w → (∀ W, C W → ∃ v', YieldsAt P ops W oi v' a ∧ a.put oi.dst v' = a.put oi.dst v) →
      anyC P md ops C Q f (listed.setIfInBounds i true) (a.put oi.dst v) w → anyC P md ops C Q (f + 1) listed a w := by
  intro f
  induction f with
  | zero =>
    intro listed a w _ hr hC hy H
    refine ⟨hC, fun h => (by rw [h] at hr; cases hr), fun j hj => ?_⟩
    by_cases hji : j = i
    · subst hji
      obtain ⟨v', hy1, hy2⟩ := hy w hC
      exact wpOp_of_stOp (fun a' h' => h') (hy1.stOp (K := fun a' => anyC P md ops C Q 0 (listed.setIfInBounds j true) a' w) hi (by rw [hy2]; exact H))
    · have := ready_mono hj hji
      rw [H.2.1] at this
      cases this
  | succ f ih =>
    intro listed a w hfree hr hC hy H
    have hun := (mem_ready.1 hr).1
    refine ⟨hC, fun h => (by rw [h] at hr; cases hr), fun j hj => ?_⟩
    by_cases hji : j = i
    · subst hji
      obtain ⟨v', hy1, hy2⟩ := hy w hC
      exact wpOp_of_stOp (fun a' h' => h') (hy1.stOp (K := fun a' => anyC P md ops C Q (f + 1) (listed.setIfInBounds j true) a' w) hi (by rw [hy2]; exact H))
    · have h1 := H.2.2 j (ready_mono hj hji)
      obtain ⟨hjun, oj, hoj, hall⟩ := mem_ready.1 hj
      have hnot : ∀ e ∈ oj.after, Region.binds md e = true → e.on ≠ i := fun e he hb heq => by
        have h1 := hall e he hb
        rw [heq, getD_both hun] at h1
        cases h1
      have hap := hfree j oj hoj hji hjun hnot
      have hap3 := (Oper.apart_spec hap)
      refine wpOp_put hoj hap (fun cs b => hsel j oj cs b hoj) (fun ds u w' hk => ?_) h1
      refine ih (listed.setIfInBounds j true) _ w' (fun k ok hk' hki hunk hno => hfree k ok hk' hki (by
        by_cases hjk : j = k
        · subst hjk; exact hjun
        · rw [getD_set_ne true hjk] at hunk; exact hunk) hno) (ready_mono hr (Ne.symm hji)) (anyC_C hk) (fun W hW => ?_) (by rw [Array.setIfInBounds_comm _ _ hji]; exact hk)
      obtain ⟨v', hy1, hy2⟩ := hy W hW
      refine ⟨v', hy1.of_same ?_ ?_, ?_⟩
      · exact execOp_put oi (fun cs b => hsel i oi cs b hi) ({ a with defers := ds ++ a.defers } : Act) oj.dst u hap3.2.2
      · exact wanted_put oi ({ a with defers := ds ++ a.defers } : Act) oj.dst u hap3.2.2
      · have hb : ∀ x, ({ a with defers := ds ++ a.defers } : Act).put oi.dst x = { a.put oi.dst x with defers := ds ++ a.defers } := fun x => by cases oi.dst <;> rfl
        rw [← Act.put_comm _ v' u hap3.2.1, ← Act.put_comm _ v u hap3.2.1, hb, hb, hy2]
/-- the walk in an order of one's own: 'true': yields the same in the class; 'false': forced -/
def mixC (P : Program) (ops : Array Oper) (C : World → Prop) (Q : Exit → Act → World → Prop) : List (Oper × Bool) → Act → World → Prop
  | [], a, w => C w ∧ Q .normal a w
  | (o, true) :: r, a, w => ∃ A1, (∀ m : Held C, wpStill P ops (HeldW m) (fun a' => a' = A1) [o] a) ∧ C w ∧ mixC P ops C Q r A1 w
  | (o, false) :: r, a, w => C w ∧ wpList P ops (OnlyN fun _ a' w' => mixC P ops C Q r a' w') [o] a w
def permB (md : Region.Mode) (ops : Array Oper) : List (Nat × Bool) → Array Bool → Bool
  | [], listed => (Region.ready md ops listed).isEmpty
  | (i, true) :: r, listed => (Region.ready md ops listed).contains i && Region.free md ops listed i && permB md ops r (listed.setIfInBounds i true)
  | (i, false) :: r, listed => decide (Region.ready md ops listed = [i]) && permB md ops r (listed.setIfInBounds i true)
def pickP (ops : Array Oper) (perm : List (Nat × Bool)) : List (Oper × Bool) := perm.filterMap fun p => (ops[p.1]?).map fun o => (o, p.2)
theorem anyC_of_mix (hs : Region.noSelect ops = true) : ∀ (perm : List (Nat × Bool)) (listed : Array Bool) (a : Act) (w : World), permB md ops perm listed = true → mixC P ops C Q (pickP ops perm) a w → anyC P md ops C Q perm.length listed a w
  | [], listed, a, w, hB, h => ⟨h.1, by simpa [permB] using hB, h.2⟩
  | (i, true) :: r, listed, a, w, hB, h => by
    simp only [permB, Bool.and_eq_true] at hB
    obtain ⟨⟨hr, hf⟩, hB'⟩ := hB
    have hr' : i ∈ Region.ready md ops listed := by simpa using hr
    obtain ⟨_, o, ho, _⟩ := mem_ready.1 hr'
    have e : pickP ops ((i, true) :: r) = (o, true) :: pickP ops r := by unfold pickP; simp [ho]
    rw [e] at h
    obtain ⟨A1, hv, hC, hm⟩ := h
    have hst : ∀ W, C W → ∃ v', YieldsAt P ops W o v' a ∧ a.put o.dst v' = A1 := fun W hW => by
      have h1 : stOp P ops W i (fun a' => a' = A1) a := by unfold stOp; simp only [ho]; exact hv ⟨W, hW⟩
      exact yieldsAt_of_stOp ho h1
    obtain ⟨v, _, rfl⟩ := hst w hC
    exact anyC_first ho (Region.noSelect_spec hs) r.length listed a w (Region.free_spec ho hf) hr' hC hst (anyC_of_mix hs r _ _ w hB' hm)
  | (i, false) :: r, listed, a, w, hB, h => by
    simp only [permB, Bool.and_eq_true, decide_eq_true_eq] at hB
    obtain ⟨hr, hB'⟩ := hB
    have hr' : i ∈ Region.ready md ops listed := by rw [hr]; simp
    obtain ⟨_, o, ho, _⟩ := mem_ready.1 hr'
    have e : pickP ops ((i, false) :: r) = (o, false) :: pickP ops r := by unfold pickP; simp [ho]
    rw [e] at h
    obtain ⟨hC, hw⟩ := h
    refine ⟨hC, by rw [hr]; simp, fun j hj => ?_⟩
    rw [hr] at hj
    obtain rfl : j = i := by simpa using hj
    have hgo : ∀ (a' : Act) (w' : World), mixC P ops C Q (pickP ops r) a' w' → anyC P md ops C Q r.length (listed.setIfInBounds j true) a' w' := fun a' w' hm => anyC_of_mix hs r _ a' w' hB' hm
    unfold wpOp
    simp only [ho]
    simp only [wpList] at hw
    split
    · rename_i hwt
      rw [if_pos hwt] at hw
      rcases hw with hw | hw
      · left
        unfold Oper.wp at *
        generalize (execOp a.eval o).run P w = res at *
        cases res with
        | ok n w' =>
          cases n <;> simp only [Oper.upon] at hw ⊢
          case value u => exact hgo _ _ hw
          case skip => exact hgo _ _ hw
          case defer d => exact hgo _ _ hw
          case enter f args => exact Calls.mono hw (fun e w'' he => by
            cases e
            · exact hgo _ _ he
            · exact he
            · exact absurd he OnlyN.out)
          case row row args => exact Rows.mono hw (fun v w'' he => hgo _ _ he)
        | halt x w' => cases x <;> simp only [Oper.upon] at hw ⊢ <;> exact hw
      · exact absurd hw.2 OnlyN.out
    · rename_i hwt
      rw [if_neg hwt] at hw
      exact hgo _ _ hw
end
theorem wp_region_mix {P : Program} (C : World → Prop) (perm : List (Nat × Bool)) {id : Nat} {Q : Exit → Act → World → Prop} {a : Act} {w : World} {l : List Oper} (hm : P.follows .mixedOrders = true)
    (hB : (Region.noSelect l.toArray && decide (perm.length = l.length) && permB .any l.toArray perm (Array.replicate l.length false)) = true)
    (h : mixC P l.toArray C Q (pickP l.toArray perm) a w.drew) : (Code.region id l.toArray true).wp P Q a w := by
  simp only [Bool.and_eq_true, decide_eq_true_eq] at hB
  obtain ⟨⟨hs, hl⟩, hp⟩ := hB
  refine Code.wp_mono OnlyN.imp (wp_region_any hm (wpAny_of_anyC (C := C) _ _ _ _ ?_))
  have := anyC_of_mix (C := C) (Q := Q) hs perm (Array.replicate l.length false) a w.drew hp h
  rw [hl] at this
  simpa using this
theorem mix_nil {P : Program} {ops : Array Oper} {C : World → Prop} {Q : Exit → Act → World → Prop} {a : Act} {w : World} (hC : C w) (h : Q .normal a w) : mixC P ops C Q [] a w := ⟨hC, h⟩
theorem still_of_quiet {P : Program} {ops : Array Oper} {o : Oper} {a A1 : Act} {W : World} (h : wpQuiet P ops (fun w' => ∃ _ : Unit, w' = W) (fun a' => a' = A1) [o] a) : wpStill P ops W (fun a' => a' = A1) [o] a := by
  simp only [wpQuiet, wpStill] at *
  split
  · rename_i hw
    rw [if_pos hw] at h
    obtain ⟨v, h1, h2⟩ := h
    have h3 := h1 W ⟨(), rfl⟩
    unfold Oper.quietAt at h3
    unfold Oper.still
    generalize (execOp a.eval o).run P W = r at *
    cases r with
    | ok n w' =>
      cases n <;> simp only [Oper.quietUpon] at h3 <;> simp only [Oper.stillUpon]
      case value u => exact ⟨h3.1, by rw [h3.2]; exact h2⟩
      case skip => exact ⟨h3.1, by rw [← h3.2]; exact h2⟩
      case enter f args => exact ⟨h3.1, v, h3.2.mono fun e w'' he => ⟨he.1, by obtain ⟨_, h⟩ := he.2; exact h⟩, h2⟩
    | halt x w' => simp only [Oper.quietUpon] at h3
  · rename_i hw
    rw [if_neg hw] at h
    exact h
theorem mix_first {P : Program} {ops : Array Oper} {C : World → Prop} {Q : Exit → Act → World → Prop} {o : Oper} {r : List (Oper × Bool)} {a : Act} {w : World}
    (h : ∃ A1, (∀ m : Held C, wpQuiet P ops (fun w' => ∃ _ : Unit, w' = HeldW m) (fun a' => a' = A1) [o] a) ∧ C w ∧ mixC P ops C Q r A1 w) : mixC P ops C Q ((o, true) :: r) a w := by
  obtain ⟨A1, h1, h2, h3⟩ := h
  exact ⟨A1, fun m => still_of_quiet (h1 m), h2, h3⟩
theorem mix_forced {P : Program} {ops : Array Oper} {C : World → Prop} {Q : Exit → Act → World → Prop} {o : Oper} {r : List (Oper × Bool)} {a : Act} {w : World} (hC : C w)
    (h : wpList P ops (OnlyN fun _ a' w' => mixC P ops C Q r a' w') [o] a w) : mixC P ops C Q ((o, false) :: r) a w := ⟨hC, h⟩
end Sw
/- The contract of node.file, at the words of a file's print. -/
set_option linter.unusedVariables false
set_option linter.unusedSimpArgs false
namespace Go.Proofs.YtjcbjocgachpjaaGreatDoor
open Go Go.RowKit
open Sw
theorem results_cell_two {P : Program} {fn : Func} {p u : Tmp} {ty : TypeId} (h : fn.results = #[.cell p ty, .tmp u]) (tmps : Array Value) (w : World) (g : Nat) (t : TypeId) (cs : Array Value) (fr : Nat × Nat) (d : TypeDesc)
    (hp : tmps.getD p undef = .pointer (some ⟨g, 0, none⟩)) (hg : w.heap[g]? = some (.cells cs t fr))
    (hu : P.underlying ty = some d) (hd : (match d with | .struct _ | .array _ _ => true | _ => false) = true) (hi : (P.info? ty).map (·.size) = some cs.size) :
    (results fn tmps).run P w = .ok (.tuple #[.agg cs, tmps.getD u undef]) w := by
  rw [results_cell_tmp h, hp]
  simp [asAddr, run_loadVar_row w g t ty cs fr d hg hu hd hi, Result.andThen]
theorem parse_time (W : World) (t : Int) (hok : (splitD t).Ok) (ht0 : 0 ≤ t) (ht1 : t < 4294967296) :
    Calls Tryz.prog 135 #[.string (textD (splitD t))] W fun e w' => e = .returned (.tuple #[.int .u32 t, .bool true]) ∧ Below W.heap.size W w' := by
  refine (parse_any W (textD (splitD t)) (textD_size _)).mono ?_
  rintro e w' ⟨h, hb⟩
  refine ⟨?_, hb⟩
  rcases h with ⟨_, h⟩ | ⟨h, _⟩
  · rw [h, partsOf_textD _ hok, ofD_splitD t ht0 ht1]
  · exact absurd (parse_text _ hok) h
/-- the words of a file's print lie in a block -/
def WdC (g : Nat) (s0 s1 s2 s3 s4 s5 : ByteArray) (W : World) : Prop := Blk W g 9 #[.string s0, .string s1, .string s2, .string s3, .string s4, .string s5]
set_option maxRecDepth 100000 in
set_option maxHeartbeats 4000000 in
theorem nodeFile_any (w : World) (g : Nat) (s0 s1 s2 s3 s4 s5 : ByteArray) (m z u : Nat) (t : Int) (hB : WdC g s0 s1 s2 s3 s4 s5 w)
    (h1 : s1 = mkB (permL m)) (hm : m < 512) (h23 : s2 ++ ⟨#[32]⟩ ++ s3 = textD (splitD t)) (z2 : s2.size = 10) (z3 : s3.size = 8) (hok : (splitD t).Ok) (ht0 : 0 ≤ t) (ht1 : t < 4294967296) (h4 : s4 = mkB (dcW z [])) (hz : z ≤ 65000) (h5 : s5 = mkB (hexL u)) (hu : u < 4294967296) :
    Calls Tryz.prog 99 #[.slice (some ⟨g, 0, none⟩) 6 6] w fun e w' => e = .returned (.agg (Pr.c ⟨1, m, t, z, u⟩)) ∧ Below w.heap.size w w' := by
  have hmo := fun W => mode_any W m hm
  have hpt := fun W => parse_time W t hok ht0 ht1
  have hn4 := fun W => nodeNumber_any W s4 10 (by omega) (by rw [h4, mkB_size]; have := dc_len z (by omega); omega)
  have hn5 := fun W => nodeNumber_any W s5 16 (by omega) (by rw [h5, mkB_size, hex_len]; omega)
  rw [show s4.data.toList = dcW z [] by rw [h4]; rfl, num_dc] at hn4
  rw [show s5.data.toList = hexL u by rw [h5]; rfl, num_hex u hu] at hn5
  rw [← h23] at hpt
  rw [show (⟨(permL m).toArray⟩ : ByteArray) = s1 from h1.symm] at hmo
  have HM := Lib.hid hmo
  have HPT := Lib.hid hpt
  have HN4 := Lib.hid hn4
  have HN5 := Lib.hid hn5
  clear hmo hpt hn4 hn5 h1 h23 hok h4 h5
  have hb0 : Below w.heap.size w (w.alloc (.cells #[.int .i64 1, .int .i64 0, .int .u32 0, .int .i64 0, .int .u32 0] 55)) := (Below.refl _ w).alloc (Nat.le_refl _) _
  have hR0 := Blk.new w 55 #[.int .i64 1, .int .i64 0, .int .u32 0, .int .i64 0, .int .u32 0]
  obtain ⟨W, hW⟩ : ∃ W, w.alloc (.cells #[.int .i64 1, .int .i64 0, .int .u32 0, .int .i64 0, .int .u32 0] 55) = W := ⟨_, rfl⟩
  rw [hW] at hb0 hR0
  have hWd : WdC g s0 s1 s2 s3 s4 s5 W := Blk.below hB hb0 hB.lt
  obtain ⟨G, hG⟩ : ∃ G, w.heap.size = G := ⟨_, rfl⟩
  have hgG : g ≠ G := by rw [← hG]; have := hB.lt; omega
  have H0 := Lib.hid (And.intro hW (And.intro hb0 (And.intro hWd (And.intro hgG hG))))
  rw [hG] at hR0
  have HR0 := Lib.hid hR0
  have c1 := hWd.cell 1
  simp only [List.getElem?_toArray, List.getElem?_cons_succ, List.getElem?_cons_zero] at c1
  clear hB hb0 hR0 hWd hgG hW
  unfold Pr.c
  go_enter Tryz.func99, Tryz.ntmps99
  go_upto_region 2 with fail
  rw [H0.out.1]
  go_wp2_with fail
  refine (HM.out W).mono ?_
  rintro e w1 ⟨rfl, hb1⟩
  have hR1 := HR0.out.below hb1 HR0.out.lt
  have hP1 := hR1.put 1 (.int .i64 m)
  have hwd1 : WdC g s0 s1 s2 s3 s4 s5 (w1.setCell ⟨G, 1, none⟩ (.int .i64 m)) := Blk.far (Blk.below H0.out.2.2.1 hb1 H0.out.2.2.1.lt) H0.out.2.2.2.1 _
  have hbs1 : Below w.heap.size w (w1.setCell ⟨G, 1, none⟩ (.int .i64 m)) := (H0.out.2.1.trans (hb1.mono H0.out.2.1.size)).setCell (p := ⟨G, 1, none⟩) (by rw [H0.out.2.2.2.2]; exact Nat.le_refl _) _
  have f1 := hR1.frozen 1
  have d1 := hR1.cell 1
  simp only [List.getElem?_toArray, List.getElem?_cons_succ, List.getElem?_cons_zero] at d1
  have H1 := Lib.hid (And.intro hbs1 (And.intro hwd1 hP1))
  clear hb1 hR1 hP1 hwd1 hbs1 c1
  go_upto_region 3 with fail
  obtain ⟨W1, hW1⟩ : ∃ W1, w1.setCell ⟨G, 1, none⟩ (.int .i64 m) = W1 := ⟨_, rfl⟩
  rw [hW1] at H1 ⊢
  have HR1 : Hid (Blk W1 G 55 #[.int .i64 1, .int .i64 m, .int .u32 0, .int .i64 0, .int .u32 0]) := Lib.hid H1.out.2.2
  clear hW1 f1 d1
  have k2 : ∀ n : Held (WdC g s0 s1 s2 s3 s4 s5), (HeldW n).cell? ⟨g, 2, none⟩ = some (.string s2) := fun n => Blk.cell (HeldW_spec n) 2
  have k3 : ∀ n : Held (WdC g s0 s1 s2 s3 s4 s5), (HeldW n).cell? ⟨g, 3, none⟩ = some (.string s3) := fun n => Blk.cell (HeldW_spec n) 3
  have HC1 := Lib.hid (show WdC g s0 s1 s2 s3 s4 s5 W1.drew from Blk.drew H1.out.2.1)
  refine wp_region_mix (WdC g s0 s1 s2 s3 s4 s5) [(0, true), (1, true), (2, true), (3, true), (4, true), (5, true), (6, true), (7, true), (8, false), (9, true), (10, true), (11, true), (12, true), (13, false)] (by kernel_rfl) (by kernel_rfl) ?_
  simp only [pickP, List.filterMap_cons, List.filterMap_nil, List.getElem?_toArray, List.getElem?_cons_succ, List.getElem?_cons_zero, Option.map_some]
  repeat (apply mix_first; apply Exists.intro; refine ⟨fun m => ?_, HC1.out, ?_⟩; · (go_big_quiet_step (fail); exact wpQuiet_nil rfl))
  refine mix_forced HC1.out ?_
  go_wp2_with fail
  refine (HPT.out W1.drew).mono ?_
  rintro e w2 ⟨rfl, hb2⟩
  have hR2 := (HR1.out.drew).below hb2 HR1.out.drew.lt
  have hwd2 : WdC g s0 s1 s2 s3 s4 s5 w2 := Blk.below HC1.out hb2 HC1.out.lt
  have H2 := Lib.hid (And.intro (H1.out.1.drew.trans (hb2.mono (H1.out.1.drew).size)) (And.intro hwd2 hR2))
  clear hb2 hR2 hwd2
  go_wp2_with fail
  show mixC _ _ _ _ _ _ _
  repeat (apply mix_first; apply Exists.intro; refine ⟨fun m => ?_, H2.out.2.1, ?_⟩; · (go_big_quiet_step (fail); exact wpQuiet_nil rfl))
  refine mix_forced H2.out.2.1 ?_
  have f2 := H2.out.2.2.frozen 2
  have d2 := H2.out.2.2.cell 2
  simp only [List.getElem?_toArray, List.getElem?_cons_succ, List.getElem?_cons_zero] at d2
  go_wp2_with fail
  show mixC _ _ _ _ _ _ _
  refine mix_nil (Blk.far H2.out.2.1 H0.out.2.2.2.1 _) ?_
  obtain ⟨W2, hW2⟩ : ∃ W2, w2.setCell ⟨G, 2, none⟩ (.int .u32 t) = W2 := ⟨_, rfl⟩
  have hR3 : Blk W2 G 55 #[.int .i64 1, .int .i64 m, .int .u32 t, .int .i64 0, .int .u32 0] := by rw [← hW2]; exact H2.out.2.2.put 2 (.int .u32 t)
  have hwd3 : WdC g s0 s1 s2 s3 s4 s5 W2 := by rw [← hW2]; exact Blk.far H2.out.2.1 H0.out.2.2.2.1 _
  have hbs3 : Below w.heap.size w W2 := by rw [← hW2]; exact H2.out.1.setCell (p := ⟨G, 2, none⟩) (by rw [H0.out.2.2.2.2]; exact Nat.le_refl _) _
  rw [hW2]
  clear hW2 f2 d2 k2 k3
  have H3 := Lib.hid (And.intro hbs3 (And.intro hwd3 hR3)); clear hbs3
  have c4 := hwd3.cell 4
  have c5 := hwd3.cell 5
  have f3 := hR3.frozen 3
  have d3 := hR3.cell 3
  simp only [List.getElem?_toArray, List.getElem?_cons_succ, List.getElem?_cons_zero] at c4 c5 d3
  clear hwd3 hR3
  go_wp2_with fail
  refine (HN4.out W2).mono ?_
  rintro e w4 ⟨rfl, rfl⟩
  go_upto_region 5 with fail
  obtain ⟨W4, hW4⟩ : ∃ W4, W2.setCell ⟨G, 3, none⟩ (.int .i64 z) = W4 := ⟨_, rfl⟩
  have hR5 : Blk W4 G 55 #[.int .i64 1, .int .i64 m, .int .u32 t, .int .i64 z, .int .u32 0] := by rw [← hW4]; exact H3.out.2.2.put 3 (.int .i64 z)
  have hwd5 : WdC g s0 s1 s2 s3 s4 s5 W4 := by rw [← hW4]; exact Blk.far H3.out.2.1 H0.out.2.2.2.1 _
  have hbs5 : Below w.heap.size w W4 := by rw [← hW4]; exact H3.out.1.setCell (p := ⟨G, 3, none⟩) (by rw [H0.out.2.2.2.2]; exact Nat.le_refl _) _
  rw [hW4]
  clear hW4 f3 d3 c4 c5
  have c5 := hwd5.cell 5
  have f4 := hR5.frozen 4
  have d4 := hR5.cell 4
  simp only [List.getElem?_toArray, List.getElem?_cons_succ, List.getElem?_cons_zero] at c5 d4
  have H5 := Lib.hid (And.intro hbs5 hR5); clear hbs5 hwd5 hR5
  go_wp2_with fail
  refine (HN5.out W4).mono ?_
  rintro e w6 ⟨rfl, rfl⟩
  go_upto_region 6 with fail
  obtain ⟨W6, hW6⟩ : ∃ W6, W4.setCell ⟨G, 4, none⟩ (.int .u32 u) = W6 := ⟨_, rfl⟩
  have hR7 : Blk W6 G 55 #[.int .i64 1, .int .i64 m, .int .u32 t, .int .i64 z, .int .u32 u] := by rw [← hW6]; exact H5.out.2.put 4 (.int .u32 u)
  have hbs7 : Below w.heap.size w W6 := by rw [← hW6]; exact H5.out.1.setCell (p := ⟨G, 4, none⟩) (by rw [H0.out.2.2.2.2]; exact Nat.le_refl _) _
  rw [hW6]
  clear hW6 f4 d4 c5
  have r0 := hR7.cell 0
  have r1 := hR7.cell 1
  have r2 := hR7.cell 2
  have r3 := hR7.cell 3
  have r4 := hR7.cell 4
  simp only [List.getElem?_toArray, List.getElem?_cons_succ, List.getElem?_cons_zero] at r0 r1 r2 r3 r4
  have g0 := hR7.frozen 0
  have g1 := hR7.frozen 1
  have g2 := hR7.frozen 2
  have g3 := hR7.frozen 3
  have g4 := hR7.frozen 4
  have H7 := Lib.hid (And.intro hbs7 hR7); clear hbs7 hR7
  go_wp2_with fail
  have hq := ((((H7.out.2.put 0 (.int .i64 1)).put 1 (.int .i64 m)).put 2 (.int .u32 t)).put 3 (.int .i64 z)).put 4 (.int .u32 u)
  refine bodyPost_ret (v := .agg #[.int .i64 1, .int .i64 m, .int .u32 t, .int .i64 z, .int .u32 u]) (results_cell_row rfl _ _ G 55 #[.int .i64 1, .int .i64 m, .int .u32 t, .int .i64 z, .int .u32 u] (0, 0) _ rfl hq Tryz.underlying55 rfl (by kernel_rfl)) rfl ⟨rfl, ?_⟩
  have hGe : w.heap.size ≤ G := Nat.le_of_eq H0.out.2.2.2.2
  exact ((((H7.out.1.setCell (p := ⟨G, 0, none⟩) hGe (.int .i64 1)).setCell (p := ⟨G, 1, none⟩) hGe (.int .i64 m)).setCell (p := ⟨G, 2, none⟩) hGe (.int .u32 t)).setCell (p := ⟨G, 3, none⟩) hGe (.int .i64 z)).setCell (p := ⟨G, 4, none⟩) hGe (.int .u32 u)
end Go.Proofs.YtjcbjocgachpjaaGreatDoor
/- The contract of node.Parse, at the text of a print. -/
set_option linter.unusedVariables false
set_option linter.unusedSimpArgs false
namespace Go.Proofs.YtjcbjocgachpjaaGreatDoor
open Go Go.RowKit
open Sw
theorem toList_ne {s : ByteArray} (h : 0 < s.size) : s.toList.isEmpty = false ∧ (s == ⟨#[]⟩) = false := by
  constructor
  · rw [ByteArray.toList_eq, List.isEmpty_eq_false_iff]
    intro e
    have h2 : s.data.toList.length = s.size := by simp
    rw [e] at h2
    simp at h2
    omega
  · exact bytes_beq_ne (fun e => by rw [e] at h; exact absurd h (by decide))
theorem split_words (W : World) (l : List UInt8) (ws : List (List UInt8)) (n : Nat) (hl : l.length ≤ 1000) (hw : wdL 32 l = ws) (hn : ws.length = n) :
    Calls Tryz.prog 97 #[.string (mkB l), .string ⟨#[32]⟩] W fun e w' => e = .returned (.slice (some ⟨W.heap.size, 0, none⟩) n n) ∧ w' = W.alloc (.cells ((ws.map fun x => Value.string (mkB x)).toArray) 9) := by
  have h := split_sp W (mkB l) (by rw [mkB_size]; omega)
  have e : wdS 32 (mkB l) = ws.map mkB := by unfold wdS; rw [data_mkB, hw]
  rw [e, List.length_map, hn, List.map_map] at h
  exact h
set_option maxRecDepth 100000 in
set_option maxHeartbeats 4000000 in
theorem nodeParse_dir (w : World) (m : Nat) (hm : m < 512) :
    Calls Tryz.prog 61 #[.string (mkB (textPL ⟨2, m, 0, 0, 0⟩))] w fun e w' => e = .returned (.tuple #[.agg (Pr.c ⟨2, m, 0, 0, 0⟩), .bool true]) ∧ Below w.heap.size w w' := by
  have htl := textPL_len (p := ⟨2, m, 0, 0, 0⟩) (show (0 : Int).toNat < 100000 by decide)
  have hwd := words_dir (p := ⟨2, m, 0, 0, 0⟩) rfl (by simpa using hm)
  have hsp := fun W => split_words W (textPL ⟨2, m, 0, 0, 0⟩) _ 2 (by omega) hwd rfl
  have htx := fun W => nodeText_dir W m hm
  have hmo := fun W => mode_any W m hm
  have hsz : 0 < (mkB (textPL ⟨2, m, 0, 0, 0⟩)).size := by
    rw [mkB_size]
    unfold textPL
    rw [if_pos rfl]
    simp [dirL]
  simp only [Int.toNat_natCast, List.map_cons, List.map_nil] at hsp
  obtain ⟨s, hs⟩ : ∃ s : ByteArray, mkB (textPL ⟨2, m, 0, 0, 0⟩) = s := ⟨_, rfl⟩
  obtain ⟨d, hd⟩ : ∃ d : ByteArray, mkB dirL = d := ⟨_, rfl⟩
  obtain ⟨q, hq⟩ : ∃ q : ByteArray, mkB (permL m) = q := ⟨_, rfl⟩
  rw [show (⟨(permL m).toArray⟩ : ByteArray) = q from hq] at hmo
  rw [hs] at hsp htx hsz ⊢
  rw [hd, hq] at hsp
  obtain ⟨hse, hse2⟩ := toList_ne hsz
  have hbn := bytes_bne_self s
  unfold Pr.c at htx ⊢
  simp only at htx ⊢
  have HSP := Lib.hid hsp
  have HT := Lib.hid htx
  have HM := Lib.hid hmo
  clear hsp htx hmo hs hd hq hwd htl hsz
  obtain ⟨W, hW⟩ : ∃ W, w.alloc (.cells #[.int .i64 0, .int .i64 0, .int .u32 0, .int .i64 0, .int .u32 0] 55) = W := ⟨_, rfl⟩
  have hR0 : Blk W w.heap.size 55 #[.int .i64 0, .int .i64 0, .int .u32 0, .int .i64 0, .int .u32 0] := by rw [← hW]; exact Blk.new _ _ _
  have hb0 : Below w.heap.size w W := by rw [← hW]; exact (Below.refl _ w).alloc (Nat.le_refl _) _
  have H0 := Lib.hid (And.intro hW (And.intro hb0 hR0))
  clear hW hb0 hR0
  go_enter Tryz.func61, Tryz.ntmps61
  go_upto_region 1 with fail
  rw [H0.out.1]
  go_wp2_with fail
  refine (HSP.out W).mono ?_
  rintro e w1 ⟨rfl, hw1⟩
  have hb1 : Below W.heap.size W w1 := by rw [hw1]; exact (Below.refl _ W).alloc (Nat.le_refl _) _
  have hwd1 : Blk w1 W.heap.size 9 #[.string d, .string q] := by rw [hw1]; exact Blk.new _ _ _
  have hR1 := H0.out.2.2.below hb1 H0.out.2.2.lt
  have hP1 := hR1.put 0 (.int .i64 2)
  have hgn : W.heap.size ≠ w.heap.size := by have := H0.out.2.2.lt; omega
  have hwd2 := hwd1.far (p := ⟨w.heap.size, 0, none⟩) hgn (.int .i64 2)
  have f0 := hR1.frozen 0
  have d0 := hR1.cell 0
  simp only [List.getElem?_toArray, List.getElem?_cons_succ, List.getElem?_cons_zero] at d0
  have H1 := Lib.hid (And.intro ((H0.out.2.1.trans (hb1.mono H0.out.2.1.size)).setCell (p := ⟨w.heap.size, 0, none⟩) (Nat.le_refl _) (.int .i64 2)) (And.intro hP1 hwd2))
  clear hb1 hwd1 hR1 hP1 hwd2 hw1 hgn
  go_upto_region 4 with fail
  obtain ⟨W1, hW1⟩ : ∃ W1, w1.setCell ⟨w.heap.size, 0, none⟩ (.int .i64 2) = W1 := ⟨_, rfl⟩
  rw [hW1] at H1 ⊢
  clear hW1 f0 d0
  obtain ⟨g, hg⟩ : ∃ g, W.heap.size = g := ⟨_, rfl⟩
  rw [hg] at H1 ⊢
  clear hg
  have c1 := H1.out.2.2.cell 1
  simp only [List.getElem?_toArray, List.getElem?_cons_succ, List.getElem?_cons_zero] at c1
  go_wp2_with fail
  refine (HM.out W1).mono ?_
  rintro e w2 ⟨rfl, hb2⟩
  have hR2 : Blk w2 w.heap.size 55 #[.int .i64 2, .int .i64 0, .int .u32 0, .int .i64 0, .int .u32 0] := H1.out.2.1.below hb2 H1.out.2.1.lt
  have f1 := hR2.frozen 1
  have d1 := hR2.cell 1
  simp only [List.getElem?_toArray, List.getElem?_cons_succ, List.getElem?_cons_zero] at d1
  have H2 := Lib.hid (And.intro ((H1.out.1.trans (hb2.mono H1.out.1.size)).setCell (p := ⟨w.heap.size, 1, none⟩) (Nat.le_refl _) (.int .i64 m)) (hR2.put 1 (.int .i64 m)))
  clear hb2 hR2 c1
  go_upto_region 7 with fail
  obtain ⟨W2, hW2⟩ : ∃ W2, w2.setCell ⟨w.heap.size, 1, none⟩ (.int .i64 m) = W2 := ⟨_, rfl⟩
  rw [hW2] at H2 ⊢
  clear hW2 f1 d1
  have hR3 : Blk W2 w.heap.size 55 #[.int .i64 2, .int .i64 m, .int .u32 0, .int .i64 0, .int .u32 0] := H2.out.2
  have r0 := hR3.cell 0
  have r1 := hR3.cell 1
  have r2 := hR3.cell 2
  have r3 := hR3.cell 3
  have r4 := hR3.cell 4
  simp only [List.getElem?_toArray, List.getElem?_cons_succ, List.getElem?_cons_zero] at r0 r1 r2 r3 r4
  clear hR3
  go_wp2_with fail
  refine (HT.out W2).mono ?_
  rintro e w3 ⟨rfl, hb3⟩
  have hR4 : Blk w3 w.heap.size 55 #[.int .i64 2, .int .i64 m, .int .u32 0, .int .i64 0, .int .u32 0] := H2.out.2.below hb3 H2.out.2.lt
  clear r0 r1 r2 r3 r4
  have r0 := hR4.cell 0
  have r1 := hR4.cell 1
  have r2 := hR4.cell 2
  have r3 := hR4.cell 3
  have r4 := hR4.cell 4
  simp only [List.getElem?_toArray, List.getElem?_cons_succ, List.getElem?_cons_zero] at r0 r1 r2 r3 r4
  have g0 := hR4.frozen 0
  have g1 := hR4.frozen 1
  have g2 := hR4.frozen 2
  have g3 := hR4.frozen 3
  have g4 := hR4.frozen 4
  have H4 := Lib.hid (And.intro (H2.out.1.trans (hb3.mono H2.out.1.size)) hR4)
  clear hb3 hR4
  go_wp2_with fail
  have hq := ((((H4.out.2.put 0 (.int .i64 2)).put 1 (.int .i64 m)).put 2 (.int .u32 0)).put 3 (.int .i64 0)).put 4 (.int .u32 0)
  refine bodyPost_ret (results_cell_two rfl _ _ w.heap.size 55 #[.int .i64 2, .int .i64 m, .int .u32 0, .int .i64 0, .int .u32 0] (0, 0) _ rfl hq Tryz.underlying55 rfl (by kernel_rfl)) rfl ⟨rfl, ?_⟩
  have hGe : w.heap.size ≤ w.heap.size := Nat.le_refl _
  exact ((((H4.out.1.setCell (p := ⟨w.heap.size, 0, none⟩) hGe (.int .i64 2)).setCell (p := ⟨w.heap.size, 1, none⟩) hGe (.int .i64 m)).setCell (p := ⟨w.heap.size, 2, none⟩) hGe (.int .u32 0)).setCell (p := ⟨w.heap.size, 3, none⟩) hGe (.int .i64 0)).setCell (p := ⟨w.heap.size, 4, none⟩) hGe (.int .u32 0)
set_option maxRecDepth 100000 in
set_option maxHeartbeats 4000000 in
theorem nodeParse_file (w : World) (m z u : Nat) (t : Int) (hm : m < 512) (hok : (splitD t).Ok) (ht0 : 0 ≤ t) (ht1 : t < 4294967296) (hz : z ≤ 65000) (hu : u < 4294967296) (hzu : z = 0 → u = 0) :
    Calls Tryz.prog 61 #[.string (mkB (textPL ⟨1, m, t, z, u⟩))] w fun e w' => e = .returned (.tuple #[.agg (Pr.c ⟨1, m, t, z, u⟩), .bool true]) ∧ Below w.heap.size w w' := by
  have htl := textPL_len (p := ⟨1, m, t, z, u⟩) (by simp; omega)
  have hwd := words_file (p := ⟨1, m, t, z, u⟩) (show ¬ (1 : Int) = 2 by decide) (by simpa using hm)
  have hsp := fun W => split_words W (textPL ⟨1, m, t, z, u⟩) _ 6 (by omega) hwd rfl
  have htx := fun W => nodeText_file W m z u t hm hok ht0 ht1 hz hu hzu
  have hsz : 0 < (mkB (textPL ⟨1, m, t, z, u⟩)).size := by
    rw [mkB_size]
    unfold textPL
    rw [if_neg (show ¬ (1 : Int) = 2 by decide)]
    simp [fileL]
  simp only [Int.toNat_natCast, List.map_cons, List.map_nil] at hsp
  have hfi := fun W g (h : WdC g (mkB fileL) (mkB (permL m)) (mkB (dayL (splitD t))) (mkB (hourL (splitD t))) (mkB (dcW z [])) (mkB (hexL u)) W) => nodeFile_any W g _ _ _ _ _ _ m z u t h rfl hm (by
    apply ByteArray.ext
    apply Array.ext'
    rw [textD_two]
    simp [mkB]) (by rw [mkB_size]; simp [dayL, digL]) (by rw [mkB_size]; simp [hourL, digL]) hok ht0 ht1 rfl hz rfl hu
  obtain ⟨s, hs⟩ : ∃ s : ByteArray, mkB (textPL ⟨1, m, t, z, u⟩) = s := ⟨_, rfl⟩
  generalize mkB fileL = s0 at *
  generalize mkB (permL m) = s1 at *
  generalize mkB (dayL (splitD t)) = s2 at *
  generalize mkB (hourL (splitD t)) = s3 at *
  generalize mkB (dcW z []) = s4 at *
  generalize mkB (hexL u) = s5 at *
  rw [hs] at hsp htx hsz ⊢
  obtain ⟨hse, hse2⟩ := toList_ne hsz
  have hbn := bytes_bne_self s
  unfold Pr.c at htx hfi ⊢
  simp only at htx hfi ⊢
  have HSP := Lib.hid hsp
  have HT := Lib.hid htx
  have HM := Lib.hid hfi
  clear hsp htx hfi hs hwd htl hsz hok
  obtain ⟨W, hW⟩ : ∃ W, w.alloc (.cells #[.int .i64 0, .int .i64 0, .int .u32 0, .int .i64 0, .int .u32 0] 55) = W := ⟨_, rfl⟩
  have hR0 : Blk W w.heap.size 55 #[.int .i64 0, .int .i64 0, .int .u32 0, .int .i64 0, .int .u32 0] := by rw [← hW]; exact Blk.new _ _ _
  have hb0 : Below w.heap.size w W := by rw [← hW]; exact (Below.refl _ w).alloc (Nat.le_refl _) _
  have H0 := Lib.hid (And.intro hW (And.intro hb0 hR0))
  clear hW hb0 hR0
  go_enter Tryz.func61, Tryz.ntmps61
  go_upto_region 1 with fail
  rw [H0.out.1]
  go_wp2_with fail
  refine (HSP.out W).mono ?_
  rintro e w1 ⟨rfl, hw1⟩
  have hb1 : Below W.heap.size W w1 := by rw [hw1]; exact (Below.refl _ W).alloc (Nat.le_refl _) _
  have hwd1 : WdC W.heap.size s0 s1 s2 s3 s4 s5 w1 := by rw [hw1]; exact Blk.new _ _ _
  have hR1 := H0.out.2.2.below hb1 H0.out.2.2.lt
  have H1 := Lib.hid (And.intro (H0.out.2.1.trans (hb1.mono H0.out.2.1.size)) (And.intro hR1 hwd1))
  clear hb1 hwd1 hR1 hw1
  obtain ⟨g, hg⟩ : ∃ g, W.heap.size = g := ⟨_, rfl⟩
  rw [hg] at H1 ⊢
  clear hg
  go_wp2_with fail
  refine (HM.out w1 g H1.out.2.2).mono ?_
  rintro e w2 ⟨rfl, hb2⟩
  have hR2 : Blk w2 w.heap.size 55 #[.int .i64 0, .int .i64 0, .int .u32 0, .int .i64 0, .int .u32 0] := H1.out.2.1.below hb2 H1.out.2.1.lt
  have e0 := hR2.cell 0
  have e1 := hR2.cell 1
  have e2 := hR2.cell 2
  have e3 := hR2.cell 3
  have e4 := hR2.cell 4
  simp only [List.getElem?_toArray, List.getElem?_cons_succ, List.getElem?_cons_zero] at e0 e1 e2 e3 e4
  have g0 := hR2.frozen 0
  have g1 := hR2.frozen 1
  have g2 := hR2.frozen 2
  have g3 := hR2.frozen 3
  have g4 := hR2.frozen 4
  have hGe : w.heap.size ≤ w.heap.size := Nat.le_refl _
  have H2 := Lib.hid (And.intro ((((((H1.out.1.trans (hb2.mono H1.out.1.size)).setCell (p := ⟨w.heap.size, 0, none⟩) hGe (.int .i64 1)).setCell (p := ⟨w.heap.size, 1, none⟩) hGe (.int .i64 m)).setCell (p := ⟨w.heap.size, 2, none⟩) hGe (.int .u32 t)).setCell (p := ⟨w.heap.size, 3, none⟩) hGe (.int .i64 z)).setCell (p := ⟨w.heap.size, 4, none⟩) hGe (.int .u32 u)) (((((hR2.put 0 (.int .i64 1)).put 1 (.int .i64 m)).put 2 (.int .u32 t)).put 3 (.int .i64 z)).put 4 (.int .u32 u)))
  clear hb2 hR2 hGe
  go_upto_region 7 with fail
  obtain ⟨W2, hW2⟩ : ∃ W2, ((((w2.setCell ⟨w.heap.size, 0, none⟩ (.int .i64 1)).setCell ⟨w.heap.size, 1, none⟩ (.int .i64 m)).setCell ⟨w.heap.size, 2, none⟩ (.int .u32 t)).setCell ⟨w.heap.size, 3, none⟩ (.int .i64 z)).setCell ⟨w.heap.size, 4, none⟩ (.int .u32 u) = W2 := ⟨_, rfl⟩
  rw [hW2] at H2 ⊢
  clear hW2 g0 g1 g2 g3 g4 e0 e1 e2 e3 e4
  have hR3 : Blk W2 w.heap.size 55 #[.int .i64 1, .int .i64 m, .int .u32 t, .int .i64 z, .int .u32 u] := H2.out.2
  have r0 := hR3.cell 0
  have r1 := hR3.cell 1
  have r2 := hR3.cell 2
  have r3 := hR3.cell 3
  have r4 := hR3.cell 4
  simp only [List.getElem?_toArray, List.getElem?_cons_succ, List.getElem?_cons_zero] at r0 r1 r2 r3 r4
  clear hR3
  go_wp2_with fail
  refine (HT.out W2).mono ?_
  rintro e w3 ⟨rfl, hb3⟩
  have hR4 : Blk w3 w.heap.size 55 #[.int .i64 1, .int .i64 m, .int .u32 t, .int .i64 z, .int .u32 u] := H2.out.2.below hb3 H2.out.2.lt
  clear r0 r1 r2 r3 r4
  have r0 := hR4.cell 0
  have r1 := hR4.cell 1
  have r2 := hR4.cell 2
  have r3 := hR4.cell 3
  have r4 := hR4.cell 4
  simp only [List.getElem?_toArray, List.getElem?_cons_succ, List.getElem?_cons_zero] at r0 r1 r2 r3 r4
  have g0 := hR4.frozen 0
  have g1 := hR4.frozen 1
  have g2 := hR4.frozen 2
  have g3 := hR4.frozen 3
  have g4 := hR4.frozen 4
  have H4 := Lib.hid (And.intro (H2.out.1.trans (hb3.mono H2.out.1.size)) hR4)
  clear hb3 hR4
  go_wp2_with fail
  have hq := ((((H4.out.2.put 0 (.int .i64 1)).put 1 (.int .i64 m)).put 2 (.int .u32 t)).put 3 (.int .i64 z)).put 4 (.int .u32 u)
  refine bodyPost_ret (results_cell_two rfl _ _ w.heap.size 55 #[.int .i64 1, .int .i64 m, .int .u32 t, .int .i64 z, .int .u32 u] (0, 0) _ rfl hq Tryz.underlying55 rfl (by kernel_rfl)) rfl ⟨rfl, ?_⟩
  have hGe : w.heap.size ≤ w.heap.size := Nat.le_refl _
  exact ((((H4.out.1.setCell (p := ⟨w.heap.size, 0, none⟩) hGe (.int .i64 1)).setCell (p := ⟨w.heap.size, 1, none⟩) hGe (.int .i64 m)).setCell (p := ⟨w.heap.size, 2, none⟩) hGe (.int .u32 t)).setCell (p := ⟨w.heap.size, 3, none⟩) hGe (.int .i64 z)).setCell (p := ⟨w.heap.size, 4, none⟩) hGe (.int .u32 u)
end Go.Proofs.YtjcbjocgachpjaaGreatDoor
