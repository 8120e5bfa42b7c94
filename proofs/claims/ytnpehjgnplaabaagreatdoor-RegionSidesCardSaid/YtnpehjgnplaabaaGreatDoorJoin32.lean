/- Several texts, joined for the limit of sixty files; each one opens with its own comment. -/
import Derived.Test.YtnpehjgnplaabaaGreatDoorJoin23
import Derived.RangeFuncWrites
import Derived.Test.YtnpehjgnplaabaaGreatDoorJoin5
import Derived.Sort.BigQuietIn
import Derived.RangeFuncCalls
import Derived.Test.YtnpehjgnplaabaaGreatDoorJoin26
import Derived.Test.YtnpehjgnplaabaaGreatDoorJoin25
import Derived.Test.YtnpehjgnplaabaaGreatDoorJoin28
import Derived.Test.YtnpehjgnplaabaaGreatDoorJoin31
/- Several texts, joined for the limit of sixty files; each one opens with its own comment. -/
/- An iterator that yields from within a range of its own: the law for its caller, who may be such an iterator too. Over any program. -/
set_option linter.unusedVariables false
set_option linter.unusedSimpArgs false
namespace Sw
open Go Go.RowKit
variable {F : Fence} {n : Nat} {P : Program}
theorem keepsF_put {B l : Nat} {W : World} (o' : Obj) (h : l < B) : KeepsFrom B W (W.putObj l o') := ⟨(grownBy_putObj' W l o').size, fun k o hB hk _ => (World.putObj_heap_other (by omega)).trans hk⟩
theorem _root_.Go.KeepsFrom.far {B B' : Nat} {W W' : World} (h : KeepsFrom B W W') (hB : B ≤ B') : KeepsFrom B' W W' := ⟨h.size, fun k o hk ho hc => h.same k o (by omega) ho hc⟩
/-- what a round owes, where what lies from B on is kept but for cells -/
def ownPostF {α : Type} (B : Nat) (Kp : World → World → Prop) (I : List α → World → Prop) (Ix : Code → List α → World → Prop) (xs : List α) (W : World) : Exit → Act → World → Prop
  | .normal, _, W' => KeepsFrom B W W' ∧ Kp W W' ∧ I xs W'
  | .ret, _, W' => KeepsFrom B W W' ∧ Ix .ret xs W'
  | .exit id, _, W' => KeepsFrom B W W' ∧ Ix (.exit id) xs W'
  | .goto t, _, W' => KeepsFrom B W W' ∧ Ix (.goto t) xs W'
  | .panic _, _, _ => False
  | .outgrown, _, _ => False
/-- an iterator's contract, where it may range over another one and yield from within: a yield keeps what lies behind the caller's record, but for cells -/
def SeqIn {α : Type} (Mine : Nat → Prop) (F : Fence) (n : Nat) (P : Program) (g : Nat) (lb : Array Value) (encs : α → Array Value) (Kp : World → World → Prop) (S Sp Tell : List α → Prop) (w : World) : Prop :=
  ∀ (l : Nat) (J Jx : List α → World → Prop) (W : World), Below w.heap.size w W → l < W.heap.size → AbN Mine W.heap.size J → AbN Mine W.heap.size Jx →
    (∀ pre x W1, J pre W1 → Tell (pre ++ [x]) → YieldAt F (n - 1) P l (encs x) W1 fun e W' =>
      (e = .returned (.bool true) ∧ J (pre ++ [x]) W' ∧ Kp W1 W' ∧ KeepsFrom (l + 1) W1 W') ∨ (e = .returned (.bool false) ∧ Jx (pre ++ [x]) W' ∧ KeepsFrom (l + 1) W1 W')) →
    J [] W →
    CallsIn F n P g (#[.func (.yield l) #[] #[]] ++ lb) W fun e W' => (∃ v, e = .returned v) ∧ ((∃ xs, S xs ∧ J xs W') ∨ (∃ pre, Sp pre ∧ Jx pre W'))
theorem SeqTells.into {α : Type} {Mine : Nat → Prop} {g : Nat} {lb : Array Value} {encs : α → Array Value} {Kp : World → World → Prop} {S Sp Tell : List α → Prop} {w : World} (h : SeqTells Mine F n P g lb encs Kp S Sp Tell w) : SeqIn Mine F n P g lb encs Kp S Sp Tell w :=
  fun l J Jx W hW _ hJ hJx hY h0 => h l J Jx W hW hJ.abM hJx.abM (fun pre x W1 h1 h2 => YieldAt.mono (hY pre x W1 h1 h2) fun e w2 he => by
    rcases he with he | he
    · exact .inl ⟨he.1, he.2.1, he.2.2.1⟩
    · exact .inr ⟨he.1, he.2.1⟩) h0
theorem wpIn_rangeFunc_in {α : Type} {g : Operand} {ps : Array Tmp} {assign body : Code} {Q : Exit → Act → World → Prop} {a : Act} {w : World} {Mine : Nat → Prop} (hM : ∀ r, Mine r → r < w.heap.size)
    (hro : F.round = none) (h1 : 1 ≤ n) {gf : Nat} {lb : Array Value} (hg : a.eval g = .func (.func gf) #[] lb) (hFg : F.fn gf) (eg : ∀ args w, (callFunc gf args).run P w = .ok (.enter gf args) w)
    {encs : α → Array Value} {Kp : World → World → Prop} {S Sp Tell : List α → Prop} {w0 : World} (hseq : SeqIn Mine F (n - 1) P gf lb encs Kp S Sp Tell w0)
    (hKt : ∀ {A B C : World}, Kp A B → Kp B C → Kp A C) (hKb : ∀ (W : World) (l : Nat) (o o' : Loop), w.heap.size ≤ l → W.heap[l]? = some (.loop o) → Kp W (W.putObj l (.loop o'))) (hb0 : Below w0.heap.size w0 w) (hps : ∀ x, (encs x).size = ps.size)
    (I : List α → World → Prop) (Ix : Code → List α → World → Prop) (hI : OwnM Mine w.heap.size I) (hIx : ∀ c, OwnM Mine w.heap.size (Ix c)) (h0 : I [] w) (a₁ : α → Nat → Act) (wA : α → World → World) (J : α → Nat → List α → World → Prop) (hJ : ∀ x n, OwnM Mine w.heap.size (J x n))
    (hA : ∀ pre x W, I pre W → Tell (pre ++ [x]) → J x W.heap.size pre (wA x W) ∧ KeepsOthers W (wA x W) ∧ Kp W (wA x W))
    (hassign : ∀ (l : Nat) (x : α) (n₀ : Nat) (W : World) (_ : W.heap.size = n₀) (K : Act → World → Prop), K (a₁ x n₀) (wA x W) →
      assign.wpIn (F.inRound l) (n - 1 - 1) P (Exit.then K (fun _ _ _ => False)) { tmps := (ps.zip (encs x)).foldl (fun t (p, v) => t.setIfInBounds p v) a.tmps, defers := [] } W)
    (hbody : ∀ (l : Nat) (pre : List α) (x : α) (n₀ : Nat) (W : World), J x n₀ pre W → Tell (pre ++ [x]) → w.heap.size + 1 < W.heap.size → body.wpIn (F.inRound l) (n - 1 - 1) P (ownPostF w.heap.size Kp I Ix (pre ++ [x]) W) (a₁ x n₀) W)
    (hdone : ∀ (D : Nat) (xs : List α) (W : World), D = w.heap.size → S xs → I xs W → W.heap[D]? = some (.deferred (some [])) → Q .normal { a with defers := { target := .collected D, args := #[] } :: a.defers } W)
    (hstop : ∀ (D : Nat) (c : Code) (pre : List α) (W : World), D = w.heap.size → Sp pre → Ix c pre W → W.heap[D]? = some (.deferred (some [])) → c.wpIn F n P Q { a with defers := { target := .collected D, args := #[] } :: a.defers } W) :
    (Code.rangeFunc g ps assign body).wpIn F n P Q a w := by
  refine wpIn_rangeFunc fun fn hfn => ?_
  rw [hro]
  obtain ⟨D, hD⟩ : ∃ D, D = w.heap.size := ⟨_, rfl⟩
  obtain ⟨R, hR⟩ : ∃ R : LoopState → Option Code → Loop, R = fun st pe => { state := st, pending := pe, fn, tmps := a.tmps, params := ps, assign, body, defers := w.heap.size } := ⟨_, rfl⟩
  obtain ⟨W1, hW1⟩ : ∃ W1, (w.alloc (.deferred (some []))).alloc (.loop (R .ready none)) = W1 := ⟨_, rfl⟩
  have hs1 : W1.heap.size = D + 1 + 1 := by rw [← hW1, hD]; simp
  have hL1 : W1.heap[D + 1]? = some (.loop (R .ready none)) := by
    rw [← hW1, hD]
    have := World.alloc_heap_new (w.alloc (.deferred (some []))) (.loop (R .ready none))
    rwa [World.size_alloc] at this
  have hD1 : W1.heap[D]? = some (.deferred (some [])) := by
    rw [← hW1, hD]
    exact (Below.heap_alloc _ _ _ (by simp)).trans (World.alloc_heap_new w _)
  have hI1 : I [] W1 := by rw [← hW1]; exact hI.new _ (hI.new _ h0)
  have hb1 : Below w0.heap.size w0 W1 := by
    rw [← hW1]
    exact hb0.trans ((((Below.refl _ w).alloc (Nat.le_refl _) _).alloc (by simp) _).mono hb0.size)
  -- the loop's own record and its block lie where the iterator does not write
  have stays : ∀ {A B : World} {row : Option Nat} {k : Nat} {o : Obj}, D ≤ k → k ≤ D + 1 → A.heap[k]? = some o → A.grownBy B row → (∀ r, row = some r → Mine r ∨ (W1.heap.size ≤ r ∧ ∃ o : Obj, A.heap[r]? = some o ∧ o.isCells = false)) → B.heap[k]? = some o := by
    intro A B row k o hk hk2 ho hgr hr
    refine (hgr.block k (Array.getElem?_eq_some_iff.1 ho).1 (fun e => ?_)).trans ho
    rcases hr k e.symm with h | ⟨h, _⟩
    · have := hM k h; omega
    · omega
  have wide : ∀ {A : World} {row : Option Nat}, (∀ r, row = some r → Mine r ∨ (W1.heap.size ≤ r ∧ ∃ o : Obj, A.heap[r]? = some o ∧ o.isCells = false)) → (∀ r, row = some r → Mine r ∨ (w.heap.size ≤ r ∧ ∃ o : Obj, A.heap[r]? = some o ∧ o.isCells = false)) := by
    intro A row hr r e
    rcases hr r e with h | ⟨hB, o, ho, hw⟩
    · exact .inl h
    · exact .inr ⟨by omega, o, ho, hw⟩
  refine ⟨D + 1, [{ target := .collected D, args := #[] }], W1, { target := .fn (.func gf) lb, args := #[.func (.yield (D + 1)) #[] #[]] }, W1, gf, #[.func (.yield (D + 1)) #[] #[]] ++ lb, W1, ?_, ?_, ?_, ?_, fun _ => h1, ?_⟩
  · rw [← hW1, hR, hD]; exact run_enterLoop_outer _ _ _ _ _
  · simp only [resolve, hg]
    simp [go_sem]
  · intro f' hf'
    simp [Target.leads] at hf'
    subst hf'
    exact hFg
  · simp [invoke, go_sem, eg]
  refine (hseq (D + 1) (fun pre W => I pre W ∧ W.heap[D + 1]? = some (.loop (R .ready none)) ∧ W.heap[D]? = some (.deferred (some [])))
    (fun pre W => ∃ c, Ix c pre W ∧ W.heap[D + 1]? = some (.loop (R .done (some c))) ∧ W.heap[D]? = some (.deferred (some []))) W1 hb1 (by omega)
    (fun s A B row hs hgr hr => ⟨hI s A B row hs.1 hgr (wide hr), stays (by omega) (by omega) hs.2.1 hgr hr, stays (Nat.le_refl _) (by omega) hs.2.2 hgr hr⟩)
    (fun s A B row hs hgr hr => by
      obtain ⟨c, hc, hl, hk⟩ := hs
      exact ⟨c, hIx c s A B row hc hgr (wide hr), stays (by omega) (by omega) hl hgr hr, stays (Nat.le_refl _) (by omega) hk hgr hr⟩)
    ?_ ⟨hI1, hL1, hD1⟩).mono ?_
  · rintro pre x W ⟨hi, hl0, hk0⟩ hlen
    obtain ⟨hjA, hoA, hpA⟩ := hA pre x W hi hlen
    have hl := hoA.same _ _ hl0 rfl
    have hk := hoA.same _ _ hk0 rfl
    have hlt : D + 1 < (wA x W).heap.size := (Array.getElem?_eq_some_iff.1 hl).1
    obtain ⟨busy, hbusy⟩ : ∃ b : Loop, b = { R .ready none with state := .busy } := ⟨_, rfl⟩
    obtain ⟨W2, hW2⟩ : ∃ W2, (wA x W).putObj (D + 1) (.loop busy) = W2 := ⟨_, rfl⟩
    have hy := run_yield (P := P) (args := encs x) hl0 (by rw [hR]; exact hps x)
    rw [hR] at hy
    refine ⟨fn, _, assign, body, hy, roundIn_of_wpIn hfn (hassign _ x _ W rfl _ ⟨W2, by rw [← hW2, hbusy]; exact run_beginRound hl (by rw [hR]), ?_⟩)⟩
    have hl2 : W2.heap[D + 1]? = some (.loop busy) := by rw [← hW2]; exact World.putObj_heap_same hlt
    have hk2 : W2.heap[D]? = some (.deferred (some [])) := by rw [← hW2]; exact (World.putObj_heap_other (by omega)).trans hk
    have hw2 : Kp W W2 := hKt hpA (by rw [← hW2]; exact hKb _ _ _ _ (by omega) hl)
    have hi2 : J x W.heap.size pre W2 := by rw [← hW2]; exact (hJ x _).turn _ hjA (by omega) hl rfl
    refine wpIn_mono (hbody _ pre x _ _ hi2 hlen (by rw [← hD]; exact (Array.getElem?_eq_some_iff.1 hl2).1)) ?_
    have fin : ∀ (jump : Option Code) (W3 : World), KeepsFrom w.heap.size W2 W3 → ∃ W4, W3.putObj (D + 1) (.loop (R (if jump.isNone then .ready else .done) jump)) = W4 ∧
        (Instr.endRound (D + 1) jump).run P W3 = .ok (.bool jump.isNone) W4 ∧ W3.heap[D + 1]? = some (.loop busy) ∧
        W4.heap[D + 1]? = some (.loop (R (if jump.isNone then .ready else .done) jump)) ∧ W4.heap[D]? = some (.deferred (some [])) ∧ KeepsFrom (D + 1 + 1) W W4 := fun jump W3 hk3 => by
      have hl3 := hk3.same _ _ (by omega) hl2 rfl
      have hkf : KeepsFrom (D + 1 + 1) W (W3.putObj (D + 1) (.loop (R (if jump.isNone then .ready else .done) jump))) := (((hoA.from _).trans (by rw [← hW2]; exact keepsF_put _ (by omega))).trans (hk3.far (by omega))).trans (keepsF_put _ (by omega))
      have := run_endRound (P := P) jump hl3
      rw [hbusy, hR] at this
      refine ⟨_, rfl, ?_, hl3, World.putObj_heap_same (Array.getElem?_eq_some_iff.1 hl3).1, (World.putObj_heap_other (by omega)).trans (hk3.same _ _ (by omega) hk2 rfl), hkf⟩
      rw [hR]
      exact this
    rintro e a3 W3 hp
    have out : ∀ c, KeepsFrom w.heap.size W2 W3 → Ix c (pre ++ [x]) W3 → ∃ v W4, (Instr.endRound (D + 1) (some c)).run P W3 = .ok v W4 ∧ Ending.returned v = .returned (.bool false) ∧ (Ix c (pre ++ [x]) W4 ∧ W4.heap[D + 1]? = some (.loop (R .done (some c))) ∧ W4.heap[D]? = some (.deferred (some []))) ∧ KeepsFrom (D + 1 + 1) W W4 := fun c hk3 hi3 => by
      obtain ⟨W4, hW4, hr, hl3, hl4, hk4, hkf⟩ := fin (some c) W3 hk3
      exact ⟨_, W4, hr, rfl, ⟨by rw [← hW4]; exact (hIx c).turn _ hi3 (by omega) hl3 rfl, hl4, hk4⟩, hkf⟩
    cases e with
    | normal =>
      obtain ⟨hk3, hkp3, hi3⟩ := hp
      obtain ⟨W4, hW4, hr, hl3, hl4, hk4, hkf⟩ := fin none W3 hk3
      refine ⟨_, W4, hr, .inl ⟨rfl, ⟨?_, hl4, hk4⟩, ?_, hkf⟩⟩
      · rw [← hW4]; exact hI.turn _ hi3 (by omega) hl3 rfl
      · rw [← hW4]; exact hKt (hKt hw2 hkp3) (hKb _ _ _ _ (by omega) hl3)
    | ret =>
      obtain ⟨v, W4, hr, hv, h4⟩ := out .ret hp.1 hp.2
      exact ⟨v, W4, hr, .inr ⟨hv, ⟨.ret, h4.1⟩, h4.2⟩⟩
    | exit id =>
      obtain ⟨v, W4, hr, hv, h4⟩ := out (.exit id) hp.1 hp.2
      exact ⟨v, W4, hr, .inr ⟨hv, ⟨.exit id, h4.1⟩, h4.2⟩⟩
    | goto t =>
      obtain ⟨v, W4, hr, hv, h4⟩ := out (.goto t) hp.1 hp.2
      exact ⟨v, W4, hr, .inr ⟨hv, ⟨.goto t, h4.1⟩, h4.2⟩⟩
    | panic ch => exact hp.elim
    | outgrown => exact hp.elim
  · rintro e W2 ⟨⟨v, rfl⟩, (⟨xs, hS, hi, hl, hk⟩ | ⟨pre, hSp, c, hi, hl, hk⟩)⟩
    · have hr := run_endLoop (P := P) hl (by rw [hR]; simp)
      rw [hR] at hr
      refine ⟨none, _, hr, ?_⟩
      exact hdone D xs _ hD hS (hI.turn _ hi (by omega) hl rfl) ((World.putObj_heap_other (by omega)).trans hk)
    · have hr := run_endLoop (P := P) hl (by rw [hR]; simp)
      rw [hR] at hr
      refine ⟨some c, _, hr, ?_⟩
      exact hstop D c pre _ hD hSp ((hIx c).turn _ hi (by omega) hl rfl) ((World.putObj_heap_other (by omega)).trans hk)
end Sw
/- XHeld's law inside a fence, in a round too: a region that draws its order, whose calls may make memory: one walk in the text's order, in a class of worlds. Over any program. -/
set_option linter.unusedVariables false
namespace Sw
open Go Go.RowKit
section
variable {F : Fence} {n : Nat} {P : Program} {ops : Array Oper} {md : Region.Mode} {C : World → Prop}
end
/-- no operation of a list defers -/
def noDefer (l : List Oper) : Bool := l.all fun o => match o.op with | .defer _ => false | _ => true
theorem noDefer_spec {l : List Oper} (h : noDefer l = true) : ∀ (i : Nat) (o : Oper), l.toArray[i]? = some o → ∀ c, o.op ≠ .defer c := by
  intro i o ho c hc
  have hm : o ∈ l := by
    have : l[i]? = some o := by simpa using ho
    exact List.mem_of_getElem? this
  have := List.all_eq_true.1 h o hm
  rw [hc] at this
  cases this
@[simp] theorem wide_round_fn (l f : Nat) : (Fence.wide.inRound l).fn f = True := rfl
end Sw
/- A region that draws its order, inside a round of the wide fence: the plain laws (Chain, ChainD, ChainT) serve there too, where nothing is deferred. Over any program. -/
set_option linter.unusedVariables false
set_option linter.unusedSimpArgs false
namespace Sw
open Go
section
variable {l n : Nat} {P : Program} {ops : Array Oper} {md : Region.Mode} {Q : Exit → Act → World → Prop}
theorem opIn_of_op {o : Oper} {a : Act} {w : World} {K : Act → World → Prop} (hnd : ∀ c, o.op ≠ .defer c) (h : o.wp P a w K (OnlyN Q)) : o.wpIn (Fence.wide.inRound l) n P a w K Q := by
  unfold Oper.wpIn
  refine ⟨fun _ _ => trivial, ?_⟩
  rw [Oper.semAt_eq _ _ _ hnd]
  unfold Oper.wp at h
  generalize (execOp a.eval o).run P w = r at *
  cases r with
  | halt x w' => cases x <;> simp only [Oper.upon] at h <;> first | exact h.elim | exact (h : False).elim
  | ok x w' =>
    cases x with
    | value u => exact h
    | skip => exact h
    | defer d => exact h
    | enter f args =>
      refine ⟨fun hd => by simp [Fence.wide] at hd, ((callsIn_wide.2 h).inRound l).mono fun e w'' he => ?_⟩
      cases e with
      | returned v => exact he
      | panicked c => exact (he : False).elim
      | outgrown => exact absurd he OnlyN.out
    | row row args =>
      refine ⟨fun hd => by simp [Fence.wide] at hd, fun c cs _ => ?_⟩
      obtain ⟨v, w2, r, s⟩ := h c cs
      exact ⟨v, w2, r, stepsIn_wide.2 s⟩
    | _ => exact (h : False).elim
theorem anyIn_of_any (hnd : ∀ (i : Nat) (o : Oper), ops[i]? = some o → ∀ c, o.op ≠ .defer c) : ∀ (f : Nat) (listed : Array Bool) (a : Act) (w : World), wpAny P md ops (OnlyN Q) f listed a w → wpAnyIn (Fence.wide.inRound l) n P md ops Q f listed a w
  | 0, _, _, _, h => h
  | f + 1, listed, a, w, h => ⟨h.1, fun i hi => by
      have h2 := h.2 i hi
      unfold wpOp at h2
      unfold wpOpIn
      cases ho : ops[i]? with
      | none => rw [ho] at h2; exact anyIn_of_any hnd f _ a w h2
      | some o =>
        rw [ho] at h2
        simp only at h2 ⊢
        split
        · rename_i hw
          rw [if_pos hw] at h2
          rcases h2 with h2 | h2
          · exact opIn_of_op (hnd i o ho) (Oper.wp_mono (fun a w => anyIn_of_any hnd f _ a w) h2)
          · exact absurd h2.2 OnlyN.out
        · rename_i hw
          rw [if_neg hw] at h2
          exact ⟨fun _ _ => trivial, anyIn_of_any hnd f _ _ w h2⟩⟩
end
theorem wpIn_region_mixD {P : Program} {lr n : Nat} (C : World → Prop) (perm : List (Nat × Bool)) {id : Nat} {Q : Exit → Act → World → Prop} {a : Act} {w : World} {l : List Oper} (hm : P.follows .mixedOrders = true)
    (hB : (noDefer l && Region.noSelect l.toArray && decide (perm.length = l.length) && permD .any l.toArray perm (Array.replicate l.length false)) = true)
    (h : mixD P l.toArray C Q (pickP l.toArray perm) a w.drew) : (Code.region id l.toArray true).wpIn (Fence.wide.inRound lr) n P Q a w := by
  simp only [Bool.and_eq_true, decide_eq_true_eq] at hB
  obtain ⟨⟨⟨hnd, hs⟩, hl⟩, hp⟩ := hB
  refine wpIn_region_any hm (anyIn_of_any (noDefer_spec hnd) _ _ _ _ (wpAny_of_anyD (C := C) _ _ _ _ ?_))
  have := anyD_of_mix (C := C) (Q := Q) hs perm (Array.replicate l.length false) a w.drew (fun k ok _ hl => by
    rw [Array.getD_eq_getD_getElem?] at hl
    rcases Nat.lt_or_ge k l.length with hk | hk
    · simp [hk] at hl
    · rw [Array.getElem?_eq_none (by simpa using hk)] at hl
      cases hl) (by simp) hp h
  rw [hl] at this
  simpa using this
end Sw
/- region's first: what is decided of single paths. -/
set_option linter.unusedVariables false
set_option linter.unusedSimpArgs false
namespace Go.Proofs.YtnpehjgnplaabaaGreatDoor
open Go Go.RowKit Go.Shelf
open Sw
attribute [local go_sem] Oper.semAt_some
/-- the types of what the caller turns -/
def tsG : List TypeId := [76, 9]
theorem keepOkG : KeepOkG tsG := by unfold KeepOkG tsG; decide
section
variable {B0 : Nat} {w w' : World} {gs bt bt2 m0 m1 mc N M : Nat} {policy : Int} {pv pv' gv : Value} {ps ps' gr : List ByteArray} {f0 f1 fc g0 g1 gc : ByteArray → Option Value}
theorem RgIn.ownF {B : Nat} {row : Option Nat} (h : RgIn B0 w gs bt bt2 m0 m1 mc N policy pv gv ps gr f0 f1 fc) (hB : gs < B ∧ m0 < B ∧ m1 < B ∧ mc < B) (hg : w.grownBy w' row) (hr : ∀ r, row = some r → B ≤ r ∧ ∃ o : Obj, w.heap[r]? = some o ∧ o.isCells = false) : RgIn B0 w' gs bt bt2 m0 m1 mc N policy pv gv ps gr f0 f1 fc := h.same fun i hi => hg.block i (h.lt i hi) (fun e => by
  obtain ⟨h1, o, ho, hc⟩ := hr i e.symm
  have cells : ∀ t cs, ¬ Blk w i t cs := fun t cs hb => by
    unfold Blk at hb
    rw [ho] at hb
    cases hb
    cases hc
  rcases hi with rfl | rfl | rfl | rfl | hi | hi
  · omega
  · omega
  · omega
  · omega
  · obtain ⟨cur, hb⟩ := own_blkB h.rp hi; exact cells _ _ hb
  · obtain ⟨cur, hb⟩ := own_blkB h.rg hi; exact cells _ _ hb)
/-- what a round of first turns, said to the iterator -/
theorem keepG_reg (h : RgIn B0 w gs bt bt2 m0 m1 mc N policy pv gv ps gr f0 f1 fc) (h' : RgIn B0 w' gs bt bt2 m0 m1 mc M policy pv' gv ps' gr g0 g1 gc) (ht : TurnB (fun i => i = gs ∨ i = m0 ∨ i = m1 ∨ i = mc ∨ pv.ownBlock = some i) w w') (hp : ∀ g, pv'.ownBlock = some g → pv.ownBlock = some g ∨ w.heap.size ≤ g) : KeepG B0 tsG 9 gs w w' := by
  have hB0 : B0 ≤ w.heap.size := Nat.le_trans h.bs (Nat.le_of_lt h.box.lt)
  have notF : ∀ g t cs, Blk w g t cs → ¬ t = 76 → (¬ t = 9 ∨ ¬ pv.ownBlock = some g) → Blk w' g t cs := fun g t cs hb h1 h2 => hb.turnB ht (fun hf => by
    rcases hf with rfl | rfl | rfl | rfl | hf
    · exact Blk.other hb h.box h1 rfl
    · exact map_noblk h.mA hb
    · exact map_noblk h.mB hb
    · exact map_noblk h.mC hb
    · rcases h2 with h2 | h2
      · obtain ⟨cur, hc⟩ := own_blkB h.rp hf
        exact Blk.other hb hc h2 rfl
      · exact h2 hf)
  refine ⟨⟨ht.to_below hB0 (fun i hi => ?_), fun g t cs hb hn => ?_⟩, fun g cs hb hn => ?_, fun g hc => ?_⟩
  · rcases hi with rfl | rfl | rfl | rfl | hi
    · exact h.bs
    · exact h.b0
    · exact h.b1
    · exact h.bc
    · exact (h.rp.lt i hi).1
  · unfold tsG at hn
    simp only [List.mem_cons, List.not_mem_nil, or_false, not_or] at hn
    exact notF g t cs hb hn.1 (.inl hn.2)
  · exact notF g _ cs hb (by decide) (.inr (fun e => hn ⟨_, _, 3, pv, h.box, by simp, e⟩))
  · obtain ⟨t, cs, i, v, hb, hi, hv⟩ := hc
    have h2 := h'.box
    unfold Blk at hb h2
    rw [h2] at hb
    cases hb
    have hlt : i < 8 := by
      have := (Array.getElem?_eq_some_iff.1 hi).1
      simpa using this
    by_cases h3 : i = 3
    · subst h3
      simp at hi
      subst hi
      rcases hp g hv with h4 | h4
      · exact .inl ⟨_, _, 3, pv, h.box, by simp, h4⟩
      · exact .inr h4
    · refine .inl ⟨_, _, i, v, h.box, ?_, hv⟩
      rw [← hi]
      have : i = 0 ∨ i = 1 ∨ i = 2 ∨ i = 4 ∨ i = 5 ∨ i = 6 ∨ i = 7 := by omega
      rcases this with rfl | rfl | rfl | rfl | rfl | rfl | rfl <;> simp
theorem keepsF_reg {B : Nat} (h : RgIn B0 w gs bt bt2 m0 m1 mc N policy pv gv ps gr f0 f1 fc) (hB : gs < B ∧ m0 < B ∧ m1 < B ∧ mc < B) (ht : TurnB (fun i => i = gs ∨ i = m0 ∨ i = m1 ∨ i = mc ∨ pv.ownBlock = some i) w w') : KeepsFrom B w w' :=
  ⟨ht.size, fun k o hk ho hc => (ht.block k (Array.getElem?_eq_some_iff.1 ho).1 (fun hf => by
    rcases hf with rfl | rfl | rfl | rfl | hf
    · omega
    · omega
    · omega
    · omega
    · obtain ⟨cur, hb⟩ := own_blkB h.rp hf
      unfold Blk at hb
      rw [ho] at hb
      cases hb
      cases hc)).trans ho⟩
end
/-- what is told of a path, in the state -/
theorem first_snoc {policy : Int} {L : List MkE} {xs ys : List NE} {pre r : List StR} {x : StR} (h : pre ++ x :: r = allR L xs ys) : ¬ x.path ∈ (pre.map (firstN policy xs ys)).map NP.path ∧ (x.verdict = 3 → ¬ x.cls = 0) ∧ x.path ∈ pathsS (L.map Prod.fst ++ xs.map Prod.fst ++ ys.map Prod.fst) ∧ (pre.map (firstN policy xs ys)).map NP.path = pre.map StR.path := by
  have hpm : (pre.map (firstN policy xs ys)).map NP.path = pre.map StR.path := by
    rw [List.map_map]
    exact List.map_congr_left (fun s _ => rfl)
  have hall : (allR L xs ys).map StR.path = pathsS (L.map Prod.fst ++ xs.map Prod.fst ++ ys.map Prod.fst) := by
    unfold allR
    rw [List.map_map]
    exact (List.map_congr_left (fun p _ => rfl)).trans (List.map_id _)
  have hr := pathsS_rise (L.map Prod.fst ++ xs.map Prod.fst ++ ys.map Prod.fst)
  rw [← hall, ← h, List.map_append, List.map_cons] at hr
  have hx : x ∈ allR L xs ys := by rw [← h]; simp
  refine ⟨fun hm => ?_, fun hv hc => ?_, ?_, hpm⟩
  · rw [hpm] at hm
    have h2 := (List.pairwise_append.1 hr).2.2 _ hm x.path (List.mem_cons_self ..)
    rw [ordS_refl] at h2
    omega
  · obtain ⟨p, _, rfl⟩ := List.mem_map.1 hx
    unfold stepR decideN classN at hv hc
    simp only at hv hc
    split at hv
    · cases hv
    · rename_i h1
      rw [if_neg h1] at hc
      split at hv
      · cases hv
      · rename_i h2
        rw [if_neg h2] at hc
        split at hv
        · cases hv
        · rename_i h3
          rw [if_neg h3] at hc
          split at hc
          · cases hc
          · split at hc <;> cases hc
  · rw [← hall]
    exact List.mem_map.2 ⟨x, hx, rfl⟩
end Go.Proofs.YtnpehjgnplaabaaGreatDoor
