/- Several texts, joined for the limit of sixty files; each one opens with its own comment. -/
import Derived.Test.YtlogdionhgabdaaDoorJoin26
import Derived.RangeFuncBound
/- A range over a function inside an iterator: as RangeTell's law; only the loop's own record is turned, and the body and the end know where it lies. Over any program. -/
set_option linter.unusedVariables false
set_option linter.unusedSimpArgs false
namespace Sw
open Go Go.RowKit
variable {F : Fence} {n : Nat} {P : Program}
/-- what is said bears that the iterator turns its own blocks, or new things that are no cells -/
def AbN {β : Type} (Mine : Nat → Prop) (B : Nat) (J : β → World → Prop) : Prop :=
  ∀ s W W' row, J s W → W.grownBy W' row → (∀ r, row = some r → Mine r ∨ (B ≤ r ∧ ∃ o : Obj, W.heap[r]? = some o ∧ o.isCells = false)) → J s W'
theorem AbN.abM {β : Type} {Mine : Nat → Prop} {B : Nat} {J : β → World → Prop} (h : AbN Mine B J) : AbM Mine B J := fun s W W' row hs hg hr => h s W W' row hs hg (fun r e => by
  rcases hr r e with h1 | ⟨h1, o, ho, hw⟩
  · exact .inl h1
  · exact .inr ⟨h1, o, ho, Obj.not_cells_of_walk hw⟩)
/-- an iterator's contract, where it may range over another one -/
def SeqNest {α : Type} (Mine : Nat → Prop) (F : Fence) (n : Nat) (P : Program) (g : Nat) (lb : Array Value) (encs : α → Array Value) (Kp : World → World → Prop) (S Sp Tell : List α → Prop) (w : World) : Prop :=
  ∀ (l : Nat) (J Jx : List α → World → Prop) (W : World), Below w.heap.size w W → AbN Mine W.heap.size J → AbN Mine W.heap.size Jx →
    (∀ pre x W1, J pre W1 → Tell (pre ++ [x]) → YieldAt F (n - 1) P l (encs x) W1 fun e W' =>
      (e = .returned (.bool true) ∧ J (pre ++ [x]) W' ∧ Kp W1 W') ∨ (e = .returned (.bool false) ∧ Jx (pre ++ [x]) W' ∧ ∀ (k : Nat) ds, W1.heap[k]? = some (Obj.deferred ds) → W'.heap[k]? = some (Obj.deferred ds))) →
    J [] W →
    CallsIn F n P g (#[.func (.yield l) #[] #[]] ++ lb) W fun e W' => (∃ v, e = .returned v) ∧ ((∃ xs, S xs ∧ J xs W') ∨ (∃ pre, Sp pre ∧ Jx pre W'))
theorem wpIn_rangeFunc_nest {α : Type} {g : Operand} {ps : Array Tmp} {assign body : Code} {Q : Exit → Act → World → Prop} {a : Act} {w : World} {Mine : Nat → Prop} (hM : ∀ r, Mine r → r < w.heap.size)
    (hro : F.round = none) (h1 : 1 ≤ n) {gf : Nat} {lb : Array Value} (hg : a.eval g = .func (.func gf) #[] lb) (hFg : F.fn gf) (eg : ∀ args w, (callFunc gf args).run P w = .ok (.enter gf args) w)
    {encs : α → Array Value} {Kp : World → World → Prop} {S Sp Tell : List α → Prop} {w0 : World} (hseq : SeqNest Mine F (n - 1) P gf lb encs Kp S Sp Tell w0)
    (hKt : ∀ {A B C : World}, Kp A B → Kp B C → Kp A C) (hKb : ∀ (W : World) (l : Nat) (o o' : Loop), w.heap.size ≤ l → W.heap[l]? = some (.loop o) → Kp W (W.putObj l (.loop o'))) (hb0 : Below w0.heap.size w0 w) (hps : ∀ x, (encs x).size = ps.size)
    (I : List α → World → Prop) (Ix : Code → List α → World → Prop) (hI : OwnM Mine w.heap.size I) (hIx : ∀ c, OwnM Mine w.heap.size (Ix c)) (h0 : I [] w) (a₁ : α → Act)
    (hassign : ∀ (l : Nat) (x : α) (W : World) (K : Act → World → Prop), K (a₁ x) W →
      assign.wpIn (F.inRound l) (n - 1 - 1) P (Exit.then K (fun _ _ _ => False)) { tmps := (ps.zip (encs x)).foldl (fun t (p, v) => t.setIfInBounds p v) a.tmps, defers := [] } W)
    (hbody : ∀ (l : Nat) (pre : List α) (x : α) (W : World), I pre W → Tell (pre ++ [x]) → w.heap.size + 1 < W.heap.size → body.wpIn (F.inRound l) (n - 1 - 1) P (ownPostK Kp I Ix (pre ++ [x]) W) (a₁ x) W)
    (hdone : ∀ (D : Nat) (xs : List α) (W : World), D = w.heap.size → S xs → I xs W → W.heap[D]? = some (.deferred (some [])) → Q .normal { a with defers := { target := .collected D, args := #[] } :: a.defers } W)
    (hstop : ∀ (D : Nat) (c : Code) (pre : List α) (W : World), D = w.heap.size → Sp pre → Ix c pre W → W.heap[D]? = some (.deferred (some [])) → c.wpIn F n P Q { a with defers := { target := .collected D, args := #[] } :: a.defers } W) :
    (Code.rangeFunc g ps assign body).wpIn F n P Q a w := by
  refine wpIn_rangeFunc fun fn hfn => ?_
  rw [hro]
  obtain ⟨D, hD⟩ : ∃ D, D = w.heap.size := ⟨_, rfl⟩
  obtain ⟨R, hR⟩ : ∃ R : LoopState → Option Code → Loop, R = fun st pe => { state := st, pending := pe, fn, tmps := a.tmps, params := ps, assign, body, defers := w.heap.size } := ⟨_, rfl⟩
  obtain ⟨W1, hW1⟩ : ∃ W1, (w.alloc (.deferred (some []))).alloc (.loop (R .ready none)) = W1 := ⟨_, rfl⟩
  have hs1 : W1.heap.size = D + 1 + 1 := by rw [← hW1, hD]; simp
  have hL1 : W1.heap[D + 1]? = some (.loop (R .ready none)) := by
    rw [← hW1, hD]
    have := World.alloc_heap_new (w.alloc (.deferred (some []))) (.loop (R .ready none))
    rwa [World.size_alloc] at this
  have hD1 : W1.heap[D]? = some (.deferred (some [])) := by
    rw [← hW1, hD]
    exact (Below.heap_alloc _ _ _ (by simp)).trans (World.alloc_heap_new w _)
  have hI1 : I [] W1 := by rw [← hW1]; exact hI.new _ (hI.new _ h0)
  have hb1 : Below w0.heap.size w0 W1 := by
    rw [← hW1]
    exact hb0.trans ((((Below.refl _ w).alloc (Nat.le_refl _) _).alloc (by simp) _).mono hb0.size)
  -- the loop's own record and its block lie where the iterator does not write
  have stays : ∀ {A B : World} {row : Option Nat} {k : Nat} {o : Obj}, D ≤ k → k ≤ D + 1 → A.heap[k]? = some o → A.grownBy B row → (∀ r, row = some r → Mine r ∨ (W1.heap.size ≤ r ∧ ∃ o : Obj, A.heap[r]? = some o ∧ o.isCells = false)) → B.heap[k]? = some o := by
    intro A B row k o hk hk2 ho hgr hr
    refine (hgr.block k (Array.getElem?_eq_some_iff.1 ho).1 (fun e => ?_)).trans ho
    rcases hr k e.symm with h | ⟨h, _⟩
    · have := hM k h; omega
    · omega
  have wide : ∀ {A : World} {row : Option Nat}, (∀ r, row = some r → Mine r ∨ (W1.heap.size ≤ r ∧ ∃ o : Obj, A.heap[r]? = some o ∧ o.isCells = false)) → (∀ r, row = some r → Mine r ∨ (w.heap.size ≤ r ∧ ∃ o : Obj, A.heap[r]? = some o ∧ o.isCells = false)) := by
    intro A row hr r e
    rcases hr r e with h | ⟨hB, o, ho, hw⟩
    · exact .inl h
    · exact .inr ⟨by omega, o, ho, hw⟩
  refine ⟨D + 1, [{ target := .collected D, args := #[] }], W1, { target := .fn (.func gf) lb, args := #[.func (.yield (D + 1)) #[] #[]] }, W1, gf, #[.func (.yield (D + 1)) #[] #[]] ++ lb, W1, ?_, ?_, ?_, ?_, fun _ => h1, ?_⟩
  · rw [← hW1, hR, hD]; exact run_enterLoop_outer _ _ _ _ _
  · simp only [resolve, hg]
    simp [go_sem]
  · intro f' hf'
    simp [Target.leads] at hf'
    subst hf'
    exact hFg
  · simp [invoke, go_sem, eg]
  refine (hseq (D + 1) (fun pre W => I pre W ∧ W.heap[D + 1]? = some (.loop (R .ready none)) ∧ W.heap[D]? = some (.deferred (some [])))
    (fun pre W => ∃ c, Ix c pre W ∧ W.heap[D + 1]? = some (.loop (R .done (some c))) ∧ W.heap[D]? = some (.deferred (some []))) W1 hb1
    (fun s A B row hs hgr hr => ⟨hI s A B row hs.1 hgr (wide hr), stays (by omega) (by omega) hs.2.1 hgr hr, stays (Nat.le_refl _) (by omega) hs.2.2 hgr hr⟩)
    (fun s A B row hs hgr hr => by
      obtain ⟨c, hc, hl, hk⟩ := hs
      exact ⟨c, hIx c s A B row hc hgr (wide hr), stays (by omega) (by omega) hl hgr hr, stays (Nat.le_refl _) (by omega) hk hgr hr⟩)
    ?_ ⟨hI1, hL1, hD1⟩).mono ?_
  · rintro pre x W ⟨hi, hl, hk⟩ hlen
    have hlt : D + 1 < W.heap.size := (Array.getElem?_eq_some_iff.1 hl).1
    obtain ⟨busy, hbusy⟩ : ∃ b : Loop, b = { R .ready none with state := .busy } := ⟨_, rfl⟩
    obtain ⟨W2, hW2⟩ : ∃ W2, W.putObj (D + 1) (.loop busy) = W2 := ⟨_, rfl⟩
    have hy := run_yield (P := P) (args := encs x) hl (by rw [hR]; exact hps x)
    rw [hR] at hy
    refine ⟨fn, _, assign, body, hy, roundIn_of_wpIn hfn (hassign _ x W _ ⟨W2, by rw [← hW2, hbusy]; exact run_beginRound hl (by rw [hR]), ?_⟩)⟩
    have hl2 : W2.heap[D + 1]? = some (.loop busy) := by rw [← hW2]; exact World.putObj_heap_same hlt
    have hk2 : W2.heap[D]? = some (.deferred (some [])) := by rw [← hW2]; exact (World.putObj_heap_other (by omega)).trans hk
    have hw2 : Kp W W2 := by rw [← hW2]; exact hKb _ _ _ _ (by omega) hl
    have hi2 : I pre W2 := by rw [← hW2]; exact hI.turn _ hi (by omega) hl rfl
    refine wpIn_mono (hbody _ pre x _ hi2 hlen (by rw [← hD]; exact (Array.getElem?_eq_some_iff.1 hl2).1)) ?_
    have fin : ∀ (jump : Option Code) (W3 : World), KeepsOthers W2 W3 → ∃ W4, W3.putObj (D + 1) (.loop (R (if jump.isNone then .ready else .done) jump)) = W4 ∧
        (Instr.endRound (D + 1) jump).run P W3 = .ok (.bool jump.isNone) W4 ∧ W3.heap[D + 1]? = some (.loop busy) ∧
        W4.heap[D + 1]? = some (.loop (R (if jump.isNone then .ready else .done) jump)) ∧ W4.heap[D]? = some (.deferred (some [])) := fun jump W3 hk3 => by
      have hl3 := hk3.same _ _ hl2 rfl
      have := run_endRound (P := P) jump hl3
      rw [hbusy, hR] at this
      refine ⟨_, rfl, ?_, hl3, World.putObj_heap_same (Array.getElem?_eq_some_iff.1 hl3).1, (World.putObj_heap_other (by omega)).trans (hk3.same _ _ hk2 rfl)⟩
      rw [hR]
      exact this
    rintro e a3 W3 hp
    have out : ∀ c, KeepsOthers W2 W3 → Ix c (pre ++ [x]) W3 → ∃ v W4, (Instr.endRound (D + 1) (some c)).run P W3 = .ok v W4 ∧ Ending.returned v = .returned (.bool false) ∧ (Ix c (pre ++ [x]) W4 ∧ W4.heap[D + 1]? = some (.loop (R .done (some c))) ∧ W4.heap[D]? = some (.deferred (some []))) ∧ ∀ (k : Nat) ds, W.heap[k]? = some (Obj.deferred ds) → W4.heap[k]? = some (Obj.deferred ds) := fun c hk3 hi3 => by
      obtain ⟨W4, hW4, hr, hl3, hl4, hk4⟩ := fin (some c) W3 hk3
      exact ⟨_, W4, hr, rfl, ⟨by rw [← hW4]; exact (hIx c).turn _ hi3 (by omega) hl3 rfl, hl4, hk4⟩, fun k ds hkd => (by
        have hne : k ≠ D + 1 := fun e' => by subst e'; rw [hl] at hkd; cases hkd
        have h2 : W2.heap[k]? = some (Obj.deferred ds) := by rw [← hW2]; exact (World.putObj_heap_other hne).trans hkd
        rw [← hW4]
        exact (World.putObj_heap_other hne).trans (hk3.same k _ h2 rfl))⟩
    cases e with
    | normal =>
      obtain ⟨hk3, hkp3, hi3⟩ := hp
      obtain ⟨W4, hW4, hr, hl3, hl4, hk4⟩ := fin none W3 hk3
      refine ⟨_, W4, hr, .inl ⟨rfl, ⟨?_, hl4, hk4⟩, ?_⟩⟩
      · rw [← hW4]; exact hI.turn _ hi3 (by omega) hl3 rfl
      · rw [← hW4]; exact hKt (hKt hw2 hkp3) (hKb _ _ _ _ (by omega) hl3)
    | ret =>
      obtain ⟨v, W4, hr, hv, h4⟩ := out .ret hp.1 hp.2
      exact ⟨v, W4, hr, .inr ⟨hv, ⟨.ret, h4.1⟩, h4.2⟩⟩
    | exit id =>
      obtain ⟨v, W4, hr, hv, h4⟩ := out (.exit id) hp.1 hp.2
      exact ⟨v, W4, hr, .inr ⟨hv, ⟨.exit id, h4.1⟩, h4.2⟩⟩
    | goto t =>
      obtain ⟨v, W4, hr, hv, h4⟩ := out (.goto t) hp.1 hp.2
      exact ⟨v, W4, hr, .inr ⟨hv, ⟨.goto t, h4.1⟩, h4.2⟩⟩
    | panic ch => exact hp.elim
    | outgrown => exact hp.elim
  · rintro e W2 ⟨⟨v, rfl⟩, (⟨xs, hS, hi, hl, hk⟩ | ⟨pre, hSp, c, hi, hl, hk⟩)⟩
    · have hr := run_endLoop (P := P) hl (by rw [hR]; simp)
      rw [hR] at hr
      refine ⟨none, _, hr, ?_⟩
      exact hdone D xs _ hD hS (hI.turn _ hi (by omega) hl rfl) ((World.putObj_heap_other (by omega)).trans hk)
    · have hr := run_endLoop (P := P) hl (by rw [hR]; simp)
      rw [hR] at hr
      refine ⟨some c, _, hr, ?_⟩
      exact hstop D c pre _ hD hSp ((hIx c).turn _ hi (by omega) hl rfl) ((World.putObj_heap_other (by omega)).trans hk)
/-- blocks of type te, and what is put off, lie as they lay -/
structure KeepTy (te : TypeId) (A B : World) : Prop where
  size : A.heap.size ≤ B.heap.size
  row : ∀ g cs, Blk A g te cs → Blk B g te cs
  put : ∀ (k : Nat) ds, A.heap[k]? = some (Obj.deferred ds) → B.heap[k]? = some (Obj.deferred ds)
theorem KeepTy.trans {te : TypeId} {A B C : World} (h : KeepTy te A B) (k : KeepTy te B C) : KeepTy te A C := ⟨Nat.le_trans h.size k.size, fun g cs hg => k.row g cs (h.row g cs hg), fun q ds hq => k.put q ds (h.put q ds hq)⟩
theorem KeepTy.below {te : TypeId} {A B : World} (h : Below A.heap.size A B) : KeepTy te A B := ⟨h.size, fun g cs hg => hg.below h hg.lt, fun k ds hk => (h.block k (Array.getElem?_eq_some_iff.1 hk).1).trans hk⟩
theorem keepTy_b {te : TypeId} (W : World) (l : Nat) (o o' : Loop) (h : W.heap[l]? = some (.loop o)) : KeepTy te W (W.putObj l (.loop o')) := by
  have hg := grownBy_putObj' W l (.loop o')
  refine ⟨hg.size, fun g cs hB => hB.grown hg (fun e => ?_), fun k ds hk => ?_⟩
  · have e' : g = l := by simpa using e
    subst e'
    unfold Blk at hB
    rw [h] at hB
    cases hB
  · refine (hg.block k (Array.getElem?_eq_some_iff.1 hk).1 (fun e => ?_)).trans hk
    have e' : k = l := by simpa using e
    subst e'
    rw [h] at hk
    cases hk
theorem SeqTells.nest {α : Type} {Mine : Nat → Prop} {g : Nat} {lb : Array Value} {encs : α → Array Value} {Kp : World → World → Prop} {S Sp Tell : List α → Prop} {w : World} (h : SeqTells Mine F n P g lb encs Kp S Sp Tell w) : SeqNest Mine F n P g lb encs Kp S Sp Tell w :=
  fun l J Jx W hW hJ hJx hY h0 => h l J Jx W hW hJ.abM hJx.abM (fun pre x W1 h1 h2 => YieldAt.mono (hY pre x W1 h1 h2) fun e w2 he => by
    rcases he with he | he
    · exact .inl he
    · exact .inr ⟨he.1, he.2.1⟩) h0
end Sw
