/- Several texts, joined for the limit of sixty files; each one opens with its own comment. -/
import Derived.Test.YtjcbjocgachpjaaGreatDoorJoin3
import Derived.Test.YtjcbjocgachpjaaGreatDoorJoin11
import Derived.Test.YtjcbjocgachpjaaGreatDoorJoin12
import Derived.Test.YtjcbjocgachpjaaGreatDoorJoin10
/- A range over a function whose iterator's words are known one by one: the caller's round is owed only at rows that the iterator tells. (As RangeOwn's law, with this word beside.) Over any program. -/
set_option linter.unusedVariables false
set_option linter.unusedSimpArgs false
namespace Sw
open Go Go.RowKit
/-- an iterator's contract, where it may write the blocks Mine, and where what it tells is known: a round is owed only at rows that it tells -/
def SeqTells {α : Type} (Mine : Nat → Prop) (F : Fence) (n : Nat) (P : Program) (g : Nat) (lb : Array Value) (encs : α → Array Value) (Kp : World → World → Prop) (S Sp Tell : List α → Prop) (w : World) : Prop :=
  ∀ (l : Nat) (J Jx : List α → World → Prop) (W : World), Below w.heap.size w W → AbM Mine W.heap.size J → AbM Mine W.heap.size Jx →
    (∀ pre x W1, J pre W1 → Tell (pre ++ [x]) → YieldAt F (n - 1) P l (encs x) W1 fun e W' =>
      (e = .returned (.bool true) ∧ J (pre ++ [x]) W' ∧ Kp W1 W') ∨ (e = .returned (.bool false) ∧ Jx (pre ++ [x]) W')) →
    J [] W →
    CallsIn F n P g (#[.func (.yield l) #[] #[]] ++ lb) W fun e W' => (∃ v, e = .returned v) ∧ ((∃ xs, S xs ∧ J xs W') ∨ (∃ pre, Sp pre ∧ Jx pre W'))
variable {F : Fence} {n : Nat} {P : Program}
theorem wpIn_rangeFunc_tell {α : Type} {g : Operand} {ps : Array Tmp} {assign body : Code} {Q : Exit → Act → World → Prop} {a : Act} {w : World} {Mine : Nat → Prop} (hM : ∀ r, Mine r → r < w.heap.size)
    (hro : F.round = none) (h1 : 1 ≤ n) {gf : Nat} {lb : Array Value} (hg : a.eval g = .func (.func gf) #[] lb) (hFg : F.fn gf) (eg : ∀ args w, (callFunc gf args).run P w = .ok (.enter gf args) w)
    {encs : α → Array Value} {Kp : World → World → Prop} {S Sp Tell : List α → Prop} {w0 : World} (hseq : SeqTells Mine F (n - 1) P gf lb encs Kp S Sp Tell w0)
    (hKt : ∀ {A B C : World}, Kp A B → Kp B C → Kp A C) (hKb : ∀ (W : World) (l : Nat) (o o' : Obj), w.heap.size ≤ l → W.heap[l]? = some o → o.isCells = false → o.isWalk = false → Kp W (W.putObj l o')) (hb0 : Below w0.heap.size w0 w) (hps : ∀ x, (encs x).size = ps.size)
    (I : List α → World → Prop) (Ix : Code → List α → World → Prop) (hI : OwnM Mine w.heap.size I) (hIx : ∀ c, OwnM Mine w.heap.size (Ix c)) (h0 : I [] w) (a₁ : α → Act)
    (hassign : ∀ (l : Nat) (x : α) (W : World) (K : Act → World → Prop), K (a₁ x) W →
      assign.wpIn (F.inRound l) (n - 1 - 1) P (Exit.then K (fun _ _ _ => False)) { tmps := (ps.zip (encs x)).foldl (fun t (p, v) => t.setIfInBounds p v) a.tmps, defers := [] } W)
    (hbody : ∀ (l : Nat) (pre : List α) (x : α) (W : World), I pre W → Tell (pre ++ [x]) → body.wpIn (F.inRound l) (n - 1 - 1) P (ownPostK Kp I Ix (pre ++ [x]) W) (a₁ x) W)
    (hdone : ∀ (D : Nat) (xs : List α) (W : World), w.heap.size ≤ D → S xs → I xs W → W.heap[D]? = some (.deferred (some [])) → Q .normal { a with defers := { target := .collected D, args := #[] } :: a.defers } W)
    (hstop : ∀ (D : Nat) (c : Code) (pre : List α) (W : World), w.heap.size ≤ D → Sp pre → Ix c pre W → W.heap[D]? = some (.deferred (some [])) → c.wpIn F n P Q { a with defers := { target := .collected D, args := #[] } :: a.defers } W) :
    (Code.rangeFunc g ps assign body).wpIn F n P Q a w := by
  refine wpIn_rangeFunc fun fn hfn => ?_
  rw [hro]
  obtain ⟨D, hD⟩ : ∃ D, D = w.heap.size := ⟨_, rfl⟩
  obtain ⟨R, hR⟩ : ∃ R : LoopState → Option Code → Loop, R = fun st pe => { state := st, pending := pe, fn, tmps := a.tmps, params := ps, assign, body, defers := w.heap.size } := ⟨_, rfl⟩
  obtain ⟨W1, hW1⟩ : ∃ W1, (w.alloc (.deferred (some []))).alloc (.loop (R .ready none)) = W1 := ⟨_, rfl⟩
  have hs1 : W1.heap.size = D + 1 + 1 := by rw [← hW1, hD]; simp
  have hL1 : W1.heap[D + 1]? = some (.loop (R .ready none)) := by
    rw [← hW1, hD]
    have := World.alloc_heap_new (w.alloc (.deferred (some []))) (.loop (R .ready none))
    rwa [World.size_alloc] at this
  have hD1 : W1.heap[D]? = some (.deferred (some [])) := by
    rw [← hW1, hD]
    exact (Below.heap_alloc _ _ _ (by simp)).trans (World.alloc_heap_new w _)
  have hI1 : I [] W1 := by rw [← hW1]; exact hI.new _ (hI.new _ h0)
  have hb1 : Below w0.heap.size w0 W1 := by
    rw [← hW1]
    exact hb0.trans ((((Below.refl _ w).alloc (Nat.le_refl _) _).alloc (by simp) _).mono hb0.size)
  -- the loop's own record and its block lie where the iterator does not write
  have stays : ∀ {A B : World} {row : Option Nat} {k : Nat} {o : Obj}, D ≤ k → A.heap[k]? = some o → o.isWalk = false → A.grownBy B row → (∀ r, row = some r → Mine r ∨ (W1.heap.size ≤ r ∧ ∃ o : Obj, A.heap[r]? = some o ∧ o.isWalk = true)) → B.heap[k]? = some o := by
    intro A B row k o hk ho hw hgr hr
    refine (hgr.block k (Array.getElem?_eq_some_iff.1 ho).1 (fun e => ?_)).trans ho
    rcases hr k e.symm with h | ⟨_, o', ho', hw'⟩
    · have := hM k h; omega
    · rw [ho] at ho'; cases ho'; rw [hw] at hw'; cases hw'
  have wide : ∀ {A : World} {row : Option Nat}, (∀ r, row = some r → Mine r ∨ (W1.heap.size ≤ r ∧ ∃ o : Obj, A.heap[r]? = some o ∧ o.isWalk = true)) → (∀ r, row = some r → Mine r ∨ (w.heap.size ≤ r ∧ ∃ o : Obj, A.heap[r]? = some o ∧ o.isCells = false)) := by
    intro A row hr r e
    rcases hr r e with h | ⟨hB, o, ho, hw⟩
    · exact .inl h
    · exact .inr ⟨by omega, o, ho, Obj.not_cells_of_walk hw⟩
  refine ⟨D + 1, [{ target := .collected D, args := #[] }], W1, { target := .fn (.func gf) lb, args := #[.func (.yield (D + 1)) #[] #[]] }, W1, gf, #[.func (.yield (D + 1)) #[] #[]] ++ lb, W1, ?_, ?_, ?_, ?_, fun _ => h1, ?_⟩
  · rw [← hW1, hR, hD]; exact run_enterLoop_outer _ _ _ _ _
  · simp only [resolve, hg]
    simp [go_sem]
  · intro f' hf'
    simp [Target.leads] at hf'
    subst hf'
    exact hFg
  · simp [invoke, go_sem, eg]
  refine (hseq (D + 1) (fun pre W => I pre W ∧ W.heap[D + 1]? = some (.loop (R .ready none)) ∧ W.heap[D]? = some (.deferred (some [])))
    (fun pre W => ∃ c, Ix c pre W ∧ W.heap[D + 1]? = some (.loop (R .done (some c))) ∧ W.heap[D]? = some (.deferred (some []))) W1 hb1
    (fun s A B row hs hgr hr => ⟨hI s A B row hs.1 hgr (wide hr), stays (by omega) hs.2.1 rfl hgr hr, stays (Nat.le_refl _) hs.2.2 rfl hgr hr⟩)
    (fun s A B row hs hgr hr => by
      obtain ⟨c, hc, hl, hk⟩ := hs
      exact ⟨c, hIx c s A B row hc hgr (wide hr), stays (by omega) hl rfl hgr hr, stays (Nat.le_refl _) hk rfl hgr hr⟩)
    ?_ ⟨hI1, hL1, hD1⟩).mono ?_
  · rintro pre x W ⟨hi, hl, hk⟩ hlen
    have hlt : D + 1 < W.heap.size := (Array.getElem?_eq_some_iff.1 hl).1
    obtain ⟨busy, hbusy⟩ : ∃ b : Loop, b = { R .ready none with state := .busy } := ⟨_, rfl⟩
    obtain ⟨W2, hW2⟩ : ∃ W2, W.putObj (D + 1) (.loop busy) = W2 := ⟨_, rfl⟩
    have hy := run_yield (P := P) (args := encs x) hl (by rw [hR]; exact hps x)
    rw [hR] at hy
    refine ⟨fn, _, assign, body, hy, roundIn_of_wpIn hfn (hassign _ x W _ ⟨W2, by rw [← hW2, hbusy]; exact run_beginRound hl (by rw [hR]), ?_⟩)⟩
    have hl2 : W2.heap[D + 1]? = some (.loop busy) := by rw [← hW2]; exact World.putObj_heap_same hlt
    have hk2 : W2.heap[D]? = some (.deferred (some [])) := by rw [← hW2]; exact (World.putObj_heap_other (by omega)).trans hk
    have hw2 : Kp W W2 := by rw [← hW2]; exact hKb _ _ _ _ (by omega) hl rfl rfl
    have hi2 : I pre W2 := by rw [← hW2]; exact hI.turn _ hi (by omega) hl rfl
    refine wpIn_mono (hbody _ pre x _ hi2 hlen) ?_
    have fin : ∀ (jump : Option Code) (W3 : World), KeepsOthers W2 W3 → ∃ W4, W3.putObj (D + 1) (.loop (R (if jump.isNone then .ready else .done) jump)) = W4 ∧
        (Instr.endRound (D + 1) jump).run P W3 = .ok (.bool jump.isNone) W4 ∧ W3.heap[D + 1]? = some (.loop busy) ∧
        W4.heap[D + 1]? = some (.loop (R (if jump.isNone then .ready else .done) jump)) ∧ W4.heap[D]? = some (.deferred (some [])) := fun jump W3 hk3 => by
      have hl3 := hk3.same _ _ hl2 rfl
      have := run_endRound (P := P) jump hl3
      rw [hbusy, hR] at this
      refine ⟨_, rfl, ?_, hl3, World.putObj_heap_same (Array.getElem?_eq_some_iff.1 hl3).1, (World.putObj_heap_other (by omega)).trans (hk3.same _ _ hk2 rfl)⟩
      rw [hR]
      exact this
    rintro e a3 W3 hp
    have out : ∀ c, KeepsOthers W2 W3 → Ix c (pre ++ [x]) W3 → ∃ v W4, (Instr.endRound (D + 1) (some c)).run P W3 = .ok v W4 ∧ Ending.returned v = .returned (.bool false) ∧ Ix c (pre ++ [x]) W4 ∧ W4.heap[D + 1]? = some (.loop (R .done (some c))) ∧ W4.heap[D]? = some (.deferred (some [])) := fun c hk3 hi3 => by
      obtain ⟨W4, hW4, hr, hl3, hl4, hk4⟩ := fin (some c) W3 hk3
      exact ⟨_, W4, hr, rfl, by rw [← hW4]; exact (hIx c).turn _ hi3 (by omega) hl3 rfl, hl4, hk4⟩
    cases e with
    | normal =>
      obtain ⟨hk3, hkp3, hi3⟩ := hp
      obtain ⟨W4, hW4, hr, hl3, hl4, hk4⟩ := fin none W3 hk3
      refine ⟨_, W4, hr, .inl ⟨rfl, ⟨?_, hl4, hk4⟩, ?_⟩⟩
      · rw [← hW4]; exact hI.turn _ hi3 (by omega) hl3 rfl
      · rw [← hW4]; exact hKt (hKt hw2 hkp3) (hKb _ _ _ _ (by omega) hl3 rfl (by rw [hbusy]; rfl))
    | ret =>
      obtain ⟨v, W4, hr, hv, h4⟩ := out .ret hp.1 hp.2
      exact ⟨v, W4, hr, .inr ⟨hv, .ret, h4⟩⟩
    | exit id =>
      obtain ⟨v, W4, hr, hv, h4⟩ := out (.exit id) hp.1 hp.2
      exact ⟨v, W4, hr, .inr ⟨hv, .exit id, h4⟩⟩
    | goto t =>
      obtain ⟨v, W4, hr, hv, h4⟩ := out (.goto t) hp.1 hp.2
      exact ⟨v, W4, hr, .inr ⟨hv, .goto t, h4⟩⟩
    | panic ch => exact hp.elim
    | outgrown => exact hp.elim
  · rintro e W2 ⟨⟨v, rfl⟩, (⟨xs, hS, hi, hl, hk⟩ | ⟨pre, hSp, c, hi, hl, hk⟩)⟩
    · have hr := run_endLoop (P := P) hl (by rw [hR]; simp)
      rw [hR] at hr
      refine ⟨none, _, hr, ?_⟩
      exact hdone D xs _ (by omega) hS (hI.turn _ hi (by omega) hl rfl) ((World.putObj_heap_other (by omega)).trans hk)
    · have hr := run_endLoop (P := P) hl (by rw [hR]; simp)
      rw [hR] at hr
      refine ⟨some c, _, hr, ?_⟩
      exact hstop D c pre _ (by omega) hSp ((hIx c).turn _ hi (by omega) hl rfl) ((World.putObj_heap_other (by omega)).trans hk)
/-- the same, where the loop's variables lie in memory: the assignment makes a world of its own -/
theorem wpIn_rangeFunc_tellW {α : Type} {g : Operand} {ps : Array Tmp} {assign body : Code} {Q : Exit → Act → World → Prop} {a : Act} {w : World} {Mine : Nat → Prop} (hM : ∀ r, Mine r → r < w.heap.size)
    (hro : F.round = none) (h1 : 1 ≤ n) {gf : Nat} {lb : Array Value} (hg : a.eval g = .func (.func gf) #[] lb) (hFg : F.fn gf) (eg : ∀ args w, (callFunc gf args).run P w = .ok (.enter gf args) w)
    {encs : α → Array Value} {Kp : World → World → Prop} {S Sp Tell : List α → Prop} {w0 : World} (hseq : SeqTells Mine F (n - 1) P gf lb encs Kp S Sp Tell w0)
    (hKt : ∀ {A B C : World}, Kp A B → Kp B C → Kp A C) (hKb : ∀ (W : World) (l : Nat) (o o' : Obj), w.heap.size ≤ l → W.heap[l]? = some o → o.isCells = false → o.isWalk = false → Kp W (W.putObj l o')) (hb0 : Below w0.heap.size w0 w) (hps : ∀ x, (encs x).size = ps.size)
    (I : List α → World → Prop) (Ix : Code → List α → World → Prop) (hI : OwnM Mine w.heap.size I) (hIx : ∀ c, OwnM Mine w.heap.size (Ix c)) (h0 : I [] w) (a₁ : α → Nat → Act) (wA : α → World → World) (J : α → Nat → List α → World → Prop) (hJ : ∀ x n, OwnM Mine w.heap.size (J x n))
    (hA : ∀ pre x W, I pre W → Tell (pre ++ [x]) → J x W.heap.size pre (wA x W) ∧ KeepsOthers W (wA x W) ∧ Kp W (wA x W))
    (hassign : ∀ (l : Nat) (x : α) (n₀ : Nat) (W : World) (_ : W.heap.size = n₀) (K : Act → World → Prop), K (a₁ x n₀) (wA x W) →
      assign.wpIn (F.inRound l) (n - 1 - 1) P (Exit.then K (fun _ _ _ => False)) { tmps := (ps.zip (encs x)).foldl (fun t (p, v) => t.setIfInBounds p v) a.tmps, defers := [] } W)
    (hbody : ∀ (l : Nat) (pre : List α) (x : α) (n₀ : Nat) (W : World), J x n₀ pre W → Tell (pre ++ [x]) → body.wpIn (F.inRound l) (n - 1 - 1) P (ownPostK Kp I Ix (pre ++ [x]) W) (a₁ x n₀) W)
    (hdone : ∀ (D : Nat) (xs : List α) (W : World), w.heap.size ≤ D → S xs → I xs W → W.heap[D]? = some (.deferred (some [])) → Q .normal { a with defers := { target := .collected D, args := #[] } :: a.defers } W)
    (hstop : ∀ (D : Nat) (c : Code) (pre : List α) (W : World), w.heap.size ≤ D → Sp pre → Ix c pre W → W.heap[D]? = some (.deferred (some [])) → c.wpIn F n P Q { a with defers := { target := .collected D, args := #[] } :: a.defers } W) :
    (Code.rangeFunc g ps assign body).wpIn F n P Q a w := by
  refine wpIn_rangeFunc fun fn hfn => ?_
  rw [hro]
  obtain ⟨D, hD⟩ : ∃ D, D = w.heap.size := ⟨_, rfl⟩
  obtain ⟨R, hR⟩ : ∃ R : LoopState → Option Code → Loop, R = fun st pe => { state := st, pending := pe, fn, tmps := a.tmps, params := ps, assign, body, defers := w.heap.size } := ⟨_, rfl⟩
  obtain ⟨W1, hW1⟩ : ∃ W1, (w.alloc (.deferred (some []))).alloc (.loop (R .ready none)) = W1 := ⟨_, rfl⟩
  have hs1 : W1.heap.size = D + 1 + 1 := by rw [← hW1, hD]; simp
  have hL1 : W1.heap[D + 1]? = some (.loop (R .ready none)) := by
    rw [← hW1, hD]
    have := World.alloc_heap_new (w.alloc (.deferred (some []))) (.loop (R .ready none))
    rwa [World.size_alloc] at this
  have hD1 : W1.heap[D]? = some (.deferred (some [])) := by
    rw [← hW1, hD]
    exact (Below.heap_alloc _ _ _ (by simp)).trans (World.alloc_heap_new w _)
  have hI1 : I [] W1 := by rw [← hW1]; exact hI.new _ (hI.new _ h0)
  have hb1 : Below w0.heap.size w0 W1 := by
    rw [← hW1]
    exact hb0.trans ((((Below.refl _ w).alloc (Nat.le_refl _) _).alloc (by simp) _).mono hb0.size)
  -- the loop's own record and its block lie where the iterator does not write
  have stays : ∀ {A B : World} {row : Option Nat} {k : Nat} {o : Obj}, D ≤ k → A.heap[k]? = some o → o.isWalk = false → A.grownBy B row → (∀ r, row = some r → Mine r ∨ (W1.heap.size ≤ r ∧ ∃ o : Obj, A.heap[r]? = some o ∧ o.isWalk = true)) → B.heap[k]? = some o := by
    intro A B row k o hk ho hw hgr hr
    refine (hgr.block k (Array.getElem?_eq_some_iff.1 ho).1 (fun e => ?_)).trans ho
    rcases hr k e.symm with h | ⟨_, o', ho', hw'⟩
    · have := hM k h; omega
    · rw [ho] at ho'; cases ho'; rw [hw] at hw'; cases hw'
  have wide : ∀ {A : World} {row : Option Nat}, (∀ r, row = some r → Mine r ∨ (W1.heap.size ≤ r ∧ ∃ o : Obj, A.heap[r]? = some o ∧ o.isWalk = true)) → (∀ r, row = some r → Mine r ∨ (w.heap.size ≤ r ∧ ∃ o : Obj, A.heap[r]? = some o ∧ o.isCells = false)) := by
    intro A row hr r e
    rcases hr r e with h | ⟨hB, o, ho, hw⟩
    · exact .inl h
    · exact .inr ⟨by omega, o, ho, Obj.not_cells_of_walk hw⟩
  refine ⟨D + 1, [{ target := .collected D, args := #[] }], W1, { target := .fn (.func gf) lb, args := #[.func (.yield (D + 1)) #[] #[]] }, W1, gf, #[.func (.yield (D + 1)) #[] #[]] ++ lb, W1, ?_, ?_, ?_, ?_, fun _ => h1, ?_⟩
  · rw [← hW1, hR, hD]; exact run_enterLoop_outer _ _ _ _ _
  · simp only [resolve, hg]
    simp [go_sem]
  · intro f' hf'
    simp [Target.leads] at hf'
    subst hf'
    exact hFg
  · simp [invoke, go_sem, eg]
  refine (hseq (D + 1) (fun pre W => I pre W ∧ W.heap[D + 1]? = some (.loop (R .ready none)) ∧ W.heap[D]? = some (.deferred (some [])))
    (fun pre W => ∃ c, Ix c pre W ∧ W.heap[D + 1]? = some (.loop (R .done (some c))) ∧ W.heap[D]? = some (.deferred (some []))) W1 hb1
    (fun s A B row hs hgr hr => ⟨hI s A B row hs.1 hgr (wide hr), stays (by omega) hs.2.1 rfl hgr hr, stays (Nat.le_refl _) hs.2.2 rfl hgr hr⟩)
    (fun s A B row hs hgr hr => by
      obtain ⟨c, hc, hl, hk⟩ := hs
      exact ⟨c, hIx c s A B row hc hgr (wide hr), stays (by omega) hl rfl hgr hr, stays (Nat.le_refl _) hk rfl hgr hr⟩)
    ?_ ⟨hI1, hL1, hD1⟩).mono ?_
  · rintro pre x W ⟨hi, hl0, hk0⟩ hlen
    obtain ⟨hjA, hoA, hpA⟩ := hA pre x W hi hlen
    have hl := hoA.same _ _ hl0 rfl
    have hk := hoA.same _ _ hk0 rfl
    have hlt : D + 1 < (wA x W).heap.size := (Array.getElem?_eq_some_iff.1 hl).1
    obtain ⟨busy, hbusy⟩ : ∃ b : Loop, b = { R .ready none with state := .busy } := ⟨_, rfl⟩
    obtain ⟨W2, hW2⟩ : ∃ W2, (wA x W).putObj (D + 1) (.loop busy) = W2 := ⟨_, rfl⟩
    have hy := run_yield (P := P) (args := encs x) hl0 (by rw [hR]; exact hps x)
    rw [hR] at hy
    refine ⟨fn, _, assign, body, hy, roundIn_of_wpIn hfn (hassign _ x _ W rfl _ ⟨W2, by rw [← hW2, hbusy]; exact run_beginRound hl (by rw [hR]), ?_⟩)⟩
    have hl2 : W2.heap[D + 1]? = some (.loop busy) := by rw [← hW2]; exact World.putObj_heap_same hlt
    have hk2 : W2.heap[D]? = some (.deferred (some [])) := by rw [← hW2]; exact (World.putObj_heap_other (by omega)).trans hk
    have hw2 : Kp W W2 := hKt hpA (by rw [← hW2]; exact hKb _ _ _ _ (by omega) hl rfl rfl)
    have hi2 : J x W.heap.size pre W2 := by rw [← hW2]; exact (hJ x _).turn _ hjA (by omega) hl rfl
    refine wpIn_mono (hbody _ pre x _ _ hi2 hlen) ?_
    have fin : ∀ (jump : Option Code) (W3 : World), KeepsOthers W2 W3 → ∃ W4, W3.putObj (D + 1) (.loop (R (if jump.isNone then .ready else .done) jump)) = W4 ∧
        (Instr.endRound (D + 1) jump).run P W3 = .ok (.bool jump.isNone) W4 ∧ W3.heap[D + 1]? = some (.loop busy) ∧
        W4.heap[D + 1]? = some (.loop (R (if jump.isNone then .ready else .done) jump)) ∧ W4.heap[D]? = some (.deferred (some [])) := fun jump W3 hk3 => by
      have hl3 := hk3.same _ _ hl2 rfl
      have := run_endRound (P := P) jump hl3
      rw [hbusy, hR] at this
      refine ⟨_, rfl, ?_, hl3, World.putObj_heap_same (Array.getElem?_eq_some_iff.1 hl3).1, (World.putObj_heap_other (by omega)).trans (hk3.same _ _ hk2 rfl)⟩
      rw [hR]
      exact this
    rintro e a3 W3 hp
    have out : ∀ c, KeepsOthers W2 W3 → Ix c (pre ++ [x]) W3 → ∃ v W4, (Instr.endRound (D + 1) (some c)).run P W3 = .ok v W4 ∧ Ending.returned v = .returned (.bool false) ∧ Ix c (pre ++ [x]) W4 ∧ W4.heap[D + 1]? = some (.loop (R .done (some c))) ∧ W4.heap[D]? = some (.deferred (some [])) := fun c hk3 hi3 => by
      obtain ⟨W4, hW4, hr, hl3, hl4, hk4⟩ := fin (some c) W3 hk3
      exact ⟨_, W4, hr, rfl, by rw [← hW4]; exact (hIx c).turn _ hi3 (by omega) hl3 rfl, hl4, hk4⟩
    cases e with
    | normal =>
      obtain ⟨hk3, hkp3, hi3⟩ := hp
      obtain ⟨W4, hW4, hr, hl3, hl4, hk4⟩ := fin none W3 hk3
      refine ⟨_, W4, hr, .inl ⟨rfl, ⟨?_, hl4, hk4⟩, ?_⟩⟩
      · rw [← hW4]; exact hI.turn _ hi3 (by omega) hl3 rfl
      · rw [← hW4]; exact hKt (hKt hw2 hkp3) (hKb _ _ _ _ (by omega) hl3 rfl (by rw [hbusy]; rfl))
    | ret =>
      obtain ⟨v, W4, hr, hv, h4⟩ := out .ret hp.1 hp.2
      exact ⟨v, W4, hr, .inr ⟨hv, .ret, h4⟩⟩
    | exit id =>
      obtain ⟨v, W4, hr, hv, h4⟩ := out (.exit id) hp.1 hp.2
      exact ⟨v, W4, hr, .inr ⟨hv, .exit id, h4⟩⟩
    | goto t =>
      obtain ⟨v, W4, hr, hv, h4⟩ := out (.goto t) hp.1 hp.2
      exact ⟨v, W4, hr, .inr ⟨hv, .goto t, h4⟩⟩
    | panic ch => exact hp.elim
    | outgrown => exact hp.elim
  · rintro e W2 ⟨⟨v, rfl⟩, (⟨xs, hS, hi, hl, hk⟩ | ⟨pre, hSp, c, hi, hl, hk⟩)⟩
    · have hr := run_endLoop (P := P) hl (by rw [hR]; simp)
      rw [hR] at hr
      refine ⟨none, _, hr, ?_⟩
      exact hdone D xs _ (by omega) hS (hI.turn _ hi (by omega) hl rfl) ((World.putObj_heap_other (by omega)).trans hk)
    · have hr := run_endLoop (P := P) hl (by rw [hR]; simp)
      rw [hR] at hr
      refine ⟨some c, _, hr, ?_⟩
      exact hstop D c pre _ (by omega) hSp ((hIx c).turn _ hi (by omega) hl rfl) ((World.putObj_heap_other (by omega)).trans hk)
theorem OwnM.of_none {β : Type} {B : Nat} {I : β → World → Prop} (h : OwnFrom B I) : OwnM (fun _ => False) B I := fun s W W' row hs hg hr => h s W W' row hs hg (fun r e => (hr r e).resolve_left id)
end Sw
/- sorted's iterators over string, swingle/api.Node: told, All, From, Back. -/
set_option linter.unusedVariables false
set_option linter.unusedSimpArgs false
namespace Go.Proofs.YtjcbjocgachpjaaGreatDoor
open Go Go.RowKit Go.Shelf
open Sw
attribute [local go_sem] Oper.semAt_some
set_option maxRecDepth 100000 in
set_option maxHeartbeats 4000000 in
theorem toldSN_tells (n : Nat) (hn : 1 ≤ n) (gb : Nat) (v : Value) (xs : List (ByteArray × Nd)) (w : World) (hgb : Blk w gb 125 #[v]) (hv : Lies w 135 5 eCSN v xs) (hl : xs.length ≤ 1000000) :
    SeqTells (fun _ => False) Fence.wide n Tryz.prog 148 #[.pointer (some ⟨gb, 0, none⟩)] (fun x : ByteArray × Nd => #[Value.string x.1, (fun v => Value.agg v.c) x.2]) (KeepIt gb v) (fun ys => ys = xs) (fun pre => pre <+: xs) (fun pre => pre <+: xs) w := fun l J Jx W hW hJ hJx hY hJ0 => by
  have hB := hgb.below hW hgb.lt
  have hL := hv.below hW
  have c0 := hB.cell 0
  simp at c0
  have hL2 := hL
  obtain ⟨A, c, rfl, hc1, hc2, _⟩ := hL2
  have HB := Lib.hid (And.intro hgb hB); clear hgb hB
  have HL := Lib.hid hL; clear hL
  have HV := Lib.hid hv; clear hv
  have HJ := Lib.hid hJ; clear hJ
  have HY := Lib.hid hY; clear hY
  clear hJx
  refine callsIn_of_wp Tryz.func148 rfl trivial ?_ rfl
  simp only [Tryz.ntmps148, List.size_toArray, List.length_cons, List.length_nil, Nat.reduceAdd, Nat.reduceSub, Array.replicate_succ, Array.replicate_zero, List.push_toArray, List.append_toArray, List.nil_append, List.cons_append]
  gi_wp2
  gi_loopw [7] (fun iv wr => ∃ k : Nat, iv = .int .i64 k ∧ k ≤ xs.length ∧ J (xs.take k) wr ∧ KeepIt gb (.slice A xs.length c) W wr) (fun iv _ => xs.length - (intOf iv).toNat)
  case atStart => exact ⟨0, rfl, Nat.zero_le _, hJ0, ⟨Nat.le_refl _, rfl, fun _ _ => rfl⟩⟩
  case round =>
    obtain ⟨k, rfl, hk, hJs, hK⟩ := hrel
    by_cases hlt : k < xs.length
    · have hLr := HL.out.kept (fun g _ hg _ => hK.row g hg)
      obtain ⟨A', c', hA, _, _, hsl⟩ := hLr.slv eCSN_len
      obtain ⟨rfl, rfl⟩ : A = A' ∧ c = c' := by injection hA with e1 e2 e3; exact ⟨e1, e3⟩
      obtain ⟨b, off, rfl, hbb, hcs⟩ := hsl (by omega)
      have hr := (hsl.range eCSN_len k hlt)
      have hJ1 := HJ.out _ wr (wr.alloc (.cells (eCSN xs[k]).toArray 135)) none hJs (grown_alloc (grown_refl wr none) _) (fun r h => by cases h)
      have hK1 : KeepIt gb (.slice (some ⟨b, off, none⟩) xs.length c) W (wr.alloc (.cells (eCSN xs[k]).toArray 135)) := hK.trans (.below ((Below.refl wr.heap.size wr).alloc (Nat.le_refl _) _) (Nat.lt_of_lt_of_le HB.out.2.lt hK.size) (fun g hg => by cases hg; exact hbb))
      have htk : xs.take (k + 1) = xs.take k ++ [xs[k]] := by rw [List.take_succ_eq_append_getElem hlt]
      have hy := HY.out (xs.take k) xs[k] _ hJ1 (by rw [← htk]; exact List.take_prefix _ _)
      rw [← htk] at hy
      generalize xs[k] = x at *
      have HQ := Lib.hid (And.intro hJ1 hK1); clear hJ1 hK1 hcs hJs hK hsl hLr htk
      have q0 := hr 0 _ rfl
      have q1 := hr 1 _ rfl
      have q2 := hr 2 _ rfl
      have q3 := hr 3 _ rfl
      have q4 := hr 4 _ rfl
      simp only [Nat.add_zero] at q0 q1 q2 q3 q4
      have hki : (k : Int) < xs.length := by omega
      obtain ⟨fn, tmps, assign, body, hyy, hR⟩ := hy
      try dsimp only at hyy
      simp only [eCSN, Nd.c] at hyy hR
      clear hr
      gi_wp2
      refine hR.mono ?_
      rintro e W3 (⟨rfl, hJ3, hk3⟩ | ⟨rfl, hJx3⟩)
      · have hK3 := HQ.out.2.trans hk3
        have HZ := Lib.hid (And.intro hJ3 hK3); clear hJ3 hk3 hK3
        gi_wp2
        go_roundw
        case rel => exact ⟨k + 1, by go_num, by omega, HZ.out.1, HZ.out.2⟩
        case measure => simp [intOf]; omega
      · gi_wp2
        refine bodyPost_ret (results_none rfl _ _ _) rfl ?_
        exact ⟨⟨_, rfl⟩, .inr ⟨_, List.take_prefix _ _, hJx3⟩⟩
    · obtain rfl : k = xs.length := by omega
      rw [List.take_length] at hJs
      gi_wp2
      go_end0
      exact ⟨⟨_, rfl⟩, .inl ⟨_, rfl, hJs⟩⟩
/-- an iterator over the entries xs -/
def SeqOfSN (xs : List (ByteArray × Nd)) (w : World) (e : Ending) (w' : World) : Prop :=
  ∃ gb v, e = .returned (.func (.func 148) #[] #[.pointer (some ⟨gb, 0, none⟩)]) ∧ Blk w' gb 125 #[v] ∧ Lies w' 135 5 eCSN v xs ∧ w.heap.size ≤ gb ∧ (∀ g, v.ownBlock = some g → g < w'.heap.size) ∧ Below w.heap.size w w'
set_option maxRecDepth 100000 in
theorem toldSN_any (w : World) (v : Value) (xs : List (ByteArray × Nd)) (hv : Lies w 135 5 eCSN v xs) (hb : ∀ g, v.ownBlock = some g → g < w.heap.size) :
    Calls Tryz.prog 120 #[v] w (SeqOfSN xs w) := by
  have hbl : Below w.heap.size w (w.alloc (.cells #[v] 125)) := (Below.refl _ _).alloc (Nat.le_refl _) _
  have HF := Lib.hid (⟨w.heap.size, v, rfl, Blk.new _ _ _, hv.below hbl, Nat.le_refl _, fun g hg => by have := hb g hg; simp; omega, hbl⟩ : SeqOfSN xs w (.returned (.func (.func 148) #[] #[.pointer (some ⟨w.heap.size, 0, none⟩)])) (w.alloc (.cells #[v] 125)))
  obtain ⟨A, c, rfl, _, _, _⟩ := hv
  clear hb hbl
  go_enter Tryz.func120, Tryz.ntmps120
  go_wp2_with fail
  go_ret
  exact HF.out
theorem SeqOfSN.mono {xs : List (ByteArray × Nd)} {w w1 : World} {e : Ending} {w' : World} (h : SeqOfSN xs w1 e w') (hb : Below w.heap.size w w1) : SeqOfSN xs w e w' := by
  obtain ⟨gb, v, he, h1, h2, h3, h4, h5⟩ := h
  exact ⟨gb, v, he, h1, h2, Nat.le_trans hb.size h3, h4, hb.trans (h5.mono hb.size)⟩
set_option maxRecDepth 100000 in
theorem srtAllSN_any (w : World) (bm : Nat) (xs : List (ByteArray × Nd)) (h : SMapSN w bm xs) :
    Calls Tryz.prog 82 #[.pointer (some ⟨bm, 0, none⟩)] w (SeqOfSN xs w) := by
  obtain ⟨v, hb, ho⟩ := h.row
  have hL := Lies.of_own ho eCSN_len (by decide)
  have hlt := fun g hg => (ho.lt g hg).2
  obtain ⟨A, c, rfl, _, _, _⟩ := SlV_of_any ho
  have HT := Lib.hid (toldSN_any w _ xs hL hlt)
  have hv1 : w.cell? ⟨bm, 1, none⟩ = some (.slice A xs.length c) := hb.cell 1
  clear hL hb ho h hlt
  go_enter Tryz.func82, Tryz.ntmps82
  go_wp2_with fail
  refine HT.out.mono ?_
  rintro e w1 ⟨gb, v, rfl, h1, h2, h3, h4, h5⟩
  have HF := Lib.hid (⟨gb, v, rfl, h1, h2, h3, h4, h5⟩ : SeqOfSN xs w (.returned (.func (.func 148) #[] #[.pointer (some ⟨gb, 0, none⟩)])) w1)
  clear h1 h2 h3 h4 h5 HT
  go_wp2_with fail
  go_ret
  exact HF.out
set_option maxRecDepth 100000 in
set_option maxHeartbeats 1000000 in
theorem srtFromSN_any (w : World) (bm : Nat) (xs : List (ByteArray × Nd)) (k : ByteArray) (h : SMapSN w bm xs) (hn : xs.length ≤ 1000000) (hk : okS k) :
    Calls Tryz.prog 113 #[.pointer (some ⟨bm, 0, none⟩), Value.string k] w (SeqOfSN (xs.drop (lbN ordS k xs)) w) := by
  have HS := Lib.hid (srtFindSN_any w bm xs k h hn hk)
  have HM := Lib.hid h; clear h
  have hle := lbN_le (c := ordS) k xs
  unfold FindPostSN at HS
  generalize lbN ordS k xs = i at *
  generalize inN ordS k xs = b at *
  go_enter Tryz.func113, Tryz.ntmps113
  go_wp2_with fail
  refine HS.out.mono ?_
  rintro e w1 ⟨rfl, hb1⟩
  obtain ⟨v, hb, ho⟩ := (HM.out.below hb1).row
  have hL := Lies.of_own ho eCSN_len (by decide)
  have hlt := fun g hg => (ho.lt g hg).2
  obtain ⟨A, c, rfl, _, hcm, _⟩ := SlV_of_any ho
  have hv1 : w1.cell? ⟨bm, 1, none⟩ = some (.slice A xs.length c) := hb.cell 1
  cases A with
  | none =>
    have h0 : xs = [] := by
      rcases ho.2 with ⟨_, h⟩ | ⟨g, cap, cur, h, _⟩
      · exact List.length_eq_zero_iff.1 h
      · cases h
    subst h0
    obtain rfl : i = 0 := by simpa using hle
    have hc0 : c = 0 := by
      rcases ho.2 with ⟨h, _⟩ | ⟨g, cap, cur, h, _⟩
      · injection h
      · cases h
    subst hc0
    have HT := Lib.hid (toldSN_any w1 (.slice none 0 0) [] (Lies.nil _ _ _ _) (fun g hg => by cases hg))
    have HB1 := Lib.hid hb1; clear hL hb ho hlt hb1
    go_wp2_with fail
    refine HT.out.mono ?_
    intro e w2 hp
    obtain ⟨gb, v, rfl, h1, h2, h3, h4, h5⟩ := hp.mono HB1.out
    have HF := Lib.hid (⟨gb, v, rfl, h1, h2, h3, h4, h5⟩ : SeqOfSN [] w (.returned (.func (.func 148) #[] #[.pointer (some ⟨gb, 0, none⟩)])) w2)
    clear h1 h2 h3 h4 h5 HT hp
    go_wp2_with fail
    go_ret
    exact HF.out
  | some a0 =>
    obtain ⟨g, rfl⟩ : ∃ g, a0 = ⟨g, 0, none⟩ := by
      rcases ho.2 with ⟨h, _⟩ | ⟨g, cap, cur, h, _⟩
      · cases h
      · injection h with h; exact ⟨g, Option.some.inj h⟩
    obtain ⟨T, hT, hTa, hTb, _⟩ := slice_from (P := Tryz.prog) 125 135 5 Tryz.underlying125 (by kernel_rfl) Tryz.sizeOf135 g 0 xs.length c i (i : Int) rfl hle
    have HT := Lib.hid (toldSN_any w1 (.slice (some T) (xs.length - i) (c - i)) (xs.drop i) (hL.drop eCSN_len i hle T (fun h => by rw [hTa h])) (fun g' hg' => by
      have : T.block = g' := by simpa [Value.ownBlock] using hg'
      rw [← this, hTb]
      exact hlt g rfl))
    have HB1 := Lib.hid hb1; clear hL hb ho hlt hb1 hTa hTb
    go_wp2_with fail
    refine HT.out.mono ?_
    intro e w2 hp
    obtain ⟨gb, v, rfl, h1, h2, h3, h4, h5⟩ := hp.mono HB1.out
    have HF := Lib.hid (⟨gb, v, rfl, h1, h2, h3, h4, h5⟩ : SeqOfSN (xs.drop i) w (.returned (.func (.func 148) #[] #[.pointer (some ⟨gb, 0, none⟩)])) w2)
    clear h1 h2 h3 h4 h5 HT hp
    go_wp2_with fail
    go_ret
    exact HF.out
end Go.Proofs.YtjcbjocgachpjaaGreatDoor
/- tree.New, Get, Len, parent. -/
set_option linter.unusedVariables false
set_option linter.unusedSimpArgs false
namespace Go.Proofs.YtjcbjocgachpjaaGreatDoor
open Go Go.RowKit
open Sw
theorem nodeField0 (w : World) (a b c d : Value) : (Instr.field 43 (.agg #[a, b, c, d]) 0).run Tryz.prog w = .ok a w := by kernel_rfl
/-- the tree in block bt, whose map is in block bm, holds the entries xs -/
structure TreeAt (w : World) (bt bm : Nat) (xs : List NE) : Prop where
  box : Blk w bt 92 #[.pointer (some ⟨bm, 0, none⟩)]
  map : SMapSN w bm xs
section
variable {w w' : World} {bt bm : Nat} {xs : List NE}
theorem TreeAt.below (h : TreeAt w bt bm xs) (hb : Below w.heap.size w w') : TreeAt w' bt bm xs := ⟨h.box.below hb h.box.lt, h.map.below hb⟩
theorem TreeAt.ne (h : TreeAt w bt bm xs) : bt ≠ bm := by
  obtain ⟨v, hb, _⟩ := h.map.row
  exact fun e => by subst e; exact Blk.other h.box hb (by decide) rfl
theorem TreeAt.grown (h : TreeAt w bt bm xs) {ys : List NE} (hm : SMapSN w' bm ys) (hg : w.grownBy w' (some bm)) : TreeAt w' bt bm ys := ⟨h.box.grown hg (by simpa using h.ne), hm⟩
theorem TreeAt.ok (h : TreeAt w bt bm xs) {p : ByteArray} {n : Nd} (hm : (p, n) ∈ xs) : p.size ≤ 90000 := h.map.ok _ hm
end
set_option maxRecDepth 100000 in
theorem treeNew_any (w : World) :
    Calls Tryz.prog 16 #[] w fun e w' => ∃ bt bm, e = .returned (.pointer (some ⟨bt, 0, none⟩)) ∧ TreeAt w' bt bm [] ∧ w.heap.size ≤ bt ∧ w.heap.size ≤ bm ∧ Below w.heap.size w w' := by
  have HN := Lib.hid (srtNewSN_any w)
  go_enter Tryz.func16, Tryz.ntmps16
  go_wp2_with fail
  refine HN.out.mono ?_
  rintro e w1 ⟨bm, rfl, hm, hbm, hb1⟩
  have hba := (Below.refl w1.heap.size w1).alloc (Nat.le_refl _) (.cells #[.pointer (some ⟨bm, 0, none⟩)] 92)
  have HF := Lib.hid (And.intro (Blk.new w1 92 #[.pointer (some ⟨bm, 0, none⟩)]) (And.intro (hm.below hba) (hb1.trans (hba.mono hb1.size))))
  have hsz := hb1.size
  clear hm hb1 hba
  go_wp2_with fail
  go_ret
  exact ⟨_, bm, rfl, ⟨HF.out.1, HF.out.2.1⟩, hsz, hbm, HF.out.2.2⟩
set_option maxRecDepth 100000 in
theorem treeLen_any (w : World) (bt bm : Nat) (xs : List NE) (h : TreeAt w bt bm xs) :
    Calls Tryz.prog 18 #[.pointer (some ⟨bt, 0, none⟩)] w fun e w' => e = .returned (.int .i64 xs.length) ∧ w = w' := by
  have HL := Lib.hid (srtLenSN_any w bm xs h.map)
  have c0 := h.box.cell 0
  simp at c0
  clear h
  go_enter Tryz.func18, Tryz.ntmps18
  go_wp2_with fail
  refine HL.out.mono ?_
  rintro e w1 ⟨rfl, rfl⟩
  go_wp2_with fail
  go_ret
  exact ⟨rfl, rfl⟩
set_option maxRecDepth 100000 in
set_option maxHeartbeats 4000000 in
theorem treeGet_any (w : World) (bt bm : Nat) (xs : List NE) (p : ByteArray) (h : TreeAt w bt bm xs) (hn : xs.length ≤ 1000000) (hp : p.size ≤ 90000) :
    Calls Tryz.prog 78 #[.pointer (some ⟨bt, 0, none⟩), .string p] w fun e w' => e = .returned (.agg (getT xs p).c) ∧ Below w.heap.size w w' := by
  have hb0 := (Below.refl w.heap.size w).alloc (Nat.le_refl _) (.cells #[.int .i64 0, .int .i64 0, .int .u32 0, .string ⟨#[]⟩] 43)
  have hB0 := Blk.new w 43 #[.int .i64 0, .int .i64 0, .int .u32 0, .string ⟨#[]⟩]
  have hT := h.below hb0
  have HG := Lib.hid (srtGetSN_any _ bm xs p hT.map hn hp)
  have c0 := hT.box.cell 0
  simp at c0
  have H0 := Lib.hid (And.intro hb0 hB0); clear hb0 hB0 hT h
  obtain ⟨n, hn2⟩ : ∃ n, getT xs p = n := ⟨_, rfl⟩
  have hg2 : (getN ordS p xs).getD (⟨0, 0, 0, ⟨#[]⟩⟩ : Nd) = n := hn2
  rw [hg2] at HG
  rw [hn2]
  generalize inN ordS p xs = bi at *
  obtain ⟨kd, md, tm, dt⟩ := n
  unfold Nd.c at *
  simp only at HG ⊢
  clear hn2 hg2
  go_enter Tryz.func78, Tryz.ntmps78
  go_wp2_with fail
  refine HG.out.mono ?_
  rintro e w1 ⟨rfl, hb1⟩
  have hba := (Below.refl w1.heap.size w1).alloc (Nat.le_refl _) (.cells #[.int .i64 kd, .int .i64 md, .int .u32 tm, .string dt] 43)
  have hB1 := (H0.out.2.below hb1 H0.out.2.lt).below hba (Nat.lt_of_lt_of_le H0.out.2.lt hb1.size)
  have hbw := (H0.out.1.trans (hb1.mono H0.out.1.size)).trans (hba.mono (H0.out.1.trans (hb1.mono H0.out.1.size)).size)
  have x0 := hB1.cell 0
  have x1 := hB1.cell 1
  have x2 := hB1.cell 2
  have x3 := hB1.cell 3
  have f0 := hB1.frozen 0
  have f1 := hB1.frozen 1
  have f2 := hB1.frozen 2
  have f3 := hB1.frozen 3
  simp at x0 x1 x2 x3
  have HF := Lib.hid (And.intro hB1 hbw); clear hB1 hbw hb1 hba
  go_wp2_with fail
  refine bodyPost_ret (v := .agg #[.int .i64 kd, .int .i64 md, .int .u32 tm, .string dt]) (results_cell_row rfl _ _ w.heap.size 43 #[.int .i64 kd, .int .i64 md, .int .u32 tm, .string dt] (0, 0) _ rfl ((((HF.out.1.put 0 (.int .i64 kd)).put 1 (.int .i64 md)).put 2 (.int .u32 tm)).put 3 (.string dt)) Tryz.underlying43 rfl infoVSN) rfl ⟨rfl, ?_⟩
  exact (((HF.out.2.setCell (p := ⟨w.heap.size, 0, none⟩) (Nat.le_refl _) (.int .i64 kd)).setCell (p := ⟨w.heap.size, 1, none⟩) (Nat.le_refl _) (.int .i64 md)).setCell (p := ⟨w.heap.size, 2, none⟩) (Nat.le_refl _) (.int .u32 tm)).setCell (p := ⟨w.heap.size, 3, none⟩) (Nat.le_refl _) (.string dt)
set_option maxRecDepth 100000 in
set_option maxHeartbeats 4000000 in
theorem treeParent_any (w : World) (bt bm : Nat) (xs : List NE) (p : ByteArray) (h : TreeAt w bt bm xs) (hn : xs.length ≤ 1000000) (hp : p.size ≤ 90000) (hu : (parentS p).size ≤ 90000) :
    Calls Tryz.prog 76 #[.pointer (some ⟨bt, 0, none⟩), .string p] w fun e w' => e = .returned (.int .i64 (parentT xs p)) ∧ Below w.heap.size w w' := by
  have HP := Lib.hid (parent_any w p (by omega))
  have hfld := nodeField0
  have HH := Lib.hid h; clear h
  unfold parentT
  by_cases h0 : parentS p = ⟨#[]⟩
  · rw [if_pos h0]
    rw [h0] at HP
    clear h0 hu
    go_enter Tryz.func76, Tryz.ntmps76
    go_wp2_with fail
    refine HP.out.mono ?_
    rintro e w1 ⟨rfl, hb1⟩
    go_wp2_with fail
    go_ret
    exact ⟨rfl, hb1⟩
  · rw [if_neg h0]
    have s3 : (parentS p).toList.isEmpty = false := by
      rw [ByteArray.toList_eq]
      cases hl : (parentS p).data.toList with
      | nil => exact absurd (by cases hq : parentS p with | mk d => rw [hq] at hl; cases d with | mk l => simp at hl; subst hl; rfl) h0
      | cons a l => rfl
    have HG := Lib.hid (fun W (h : TreeAt W bt bm xs) => treeGet_any W bt bm xs (parentS p) h hn hu)
    generalize parentS p = u at *
    generalize getT xs u = n at *
    clear h0
    by_cases k0 : n.kind = 0
    · rw [if_pos k0]
      have t0 : (n.kind == 0) = true := by rw [beq_iff_eq]; exact k0
      obtain ⟨kd, md, tm, dt⟩ := n
      simp only at k0 t0
      unfold Nd.c at HG
      subst k0
      go_enter Tryz.func76, Tryz.ntmps76
      go_wp2_with fail
      refine HP.out.mono ?_
      rintro e w1 ⟨rfl, hb1⟩
      have HG1 := Lib.hid (HG.out w1 (HH.out.below hb1))
      have HB1 := Lib.hid hb1; clear hb1
      go_wp2_with fail
      refine HG1.out.mono ?_
      rintro e w2 ⟨rfl, hb2⟩
      have HB2 := Lib.hid (HB1.out.trans (hb2.mono HB1.out.size)); clear hb2
      go_wp2_with fail
      go_ret
      exact ⟨rfl, HB2.out⟩
    · rw [if_neg k0]
      have t0 : (n.kind == 0) = false := by rw [beq_eq_false_iff_ne]; exact k0
      by_cases k2 : n.kind = 2
      · rw [if_pos k2]
        obtain ⟨kd, md, tm, dt⟩ := n
        simp only at k0 t0 k2
        unfold Nd.c at HG
        subst k2
        clear k0
        go_enter Tryz.func76, Tryz.ntmps76
        go_wp2_with fail
        refine HP.out.mono ?_
        rintro e w1 ⟨rfl, hb1⟩
        have HG1 := Lib.hid (HG.out w1 (HH.out.below hb1))
        have HB1 := Lib.hid hb1; clear hb1
        go_wp2_with fail
        refine HG1.out.mono ?_
        rintro e w2 ⟨rfl, hb2⟩
        have HB2 := Lib.hid (HB1.out.trans (hb2.mono HB1.out.size)); clear hb2
        go_wp2_with fail
        go_ret
        exact ⟨rfl, HB2.out⟩
      · rw [if_neg k2]
        have t2 : (n.kind == 2) = false := by rw [beq_eq_false_iff_ne]; exact k2
        obtain ⟨kd, md, tm, dt⟩ := n
        simp only at k0 t0 k2 t2
        unfold Nd.c at HG
        clear k0 k2
        go_enter Tryz.func76, Tryz.ntmps76
        go_wp2_with fail
        refine HP.out.mono ?_
        rintro e w1 ⟨rfl, hb1⟩
        have HG1 := Lib.hid (HG.out w1 (HH.out.below hb1))
        have HB1 := Lib.hid hb1; clear hb1
        go_wp2_with fail
        refine HG1.out.mono ?_
        rintro e w2 ⟨rfl, hb2⟩
        have HB2 := Lib.hid (HB1.out.trans (hb2.mono HB1.out.size)); clear hb2
        go_wp2_with fail
        go_ret
        exact ⟨rfl, HB2.out⟩
end Go.Proofs.YtjcbjocgachpjaaGreatDoor
