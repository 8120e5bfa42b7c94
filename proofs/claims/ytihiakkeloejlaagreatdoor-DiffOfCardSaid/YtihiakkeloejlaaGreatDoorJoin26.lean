/- Several texts, joined for the limit of sixty files; each one opens with its own comment. -/
import Derived.Test.YtihiakkeloejlaaGreatDoorJoin13
import Derived.RangeFuncBound
import Derived.RangeFuncWrites
import Derived.Test.YtihiakkeloejlaaGreatDoorJoin22
import Derived.Test.YtihiakkeloejlaaGreatDoorJoin25
import Derived.Test.YtihiakkeloejlaaGreatDoorJoin20
import Derived.Test.YtihiakkeloejlaaGreatDoorJoin5
/- A range over a function inside an iterator: as RangeTell's law; only the loop's own record is turned, and the body and the end know where it lies. Over any program. -/
set_option linter.unusedVariables false
set_option linter.unusedSimpArgs false
namespace Sw
open Go Go.RowKit
variable {F : Fence} {n : Nat} {P : Program}
/-- what is said bears that the iterator turns its own blocks, or new things that are no cells -/
def AbN {β : Type} (Mine : Nat → Prop) (B : Nat) (J : β → World → Prop) : Prop :=
  ∀ s W W' row, J s W → W.grownBy W' row → (∀ r, row = some r → Mine r ∨ (B ≤ r ∧ ∃ o : Obj, W.heap[r]? = some o ∧ o.isCells = false)) → J s W'
theorem AbN.abM {β : Type} {Mine : Nat → Prop} {B : Nat} {J : β → World → Prop} (h : AbN Mine B J) : AbM Mine B J := fun s W W' row hs hg hr => h s W W' row hs hg (fun r e => by
  rcases hr r e with h1 | ⟨h1, o, ho, hw⟩
  · exact .inl h1
  · exact .inr ⟨h1, o, ho, Obj.not_cells_of_walk hw⟩)
/-- an iterator's contract, where it may range over another one -/
def SeqNest {α : Type} (Mine : Nat → Prop) (F : Fence) (n : Nat) (P : Program) (g : Nat) (lb : Array Value) (encs : α → Array Value) (Kp : World → World → Prop) (S Sp Tell : List α → Prop) (w : World) : Prop :=
  ∀ (l : Nat) (J Jx : List α → World → Prop) (W : World), Below w.heap.size w W → AbN Mine W.heap.size J → AbN Mine W.heap.size Jx →
    (∀ pre x W1, J pre W1 → Tell (pre ++ [x]) → YieldAt F (n - 1) P l (encs x) W1 fun e W' =>
      (e = .returned (.bool true) ∧ J (pre ++ [x]) W' ∧ Kp W1 W') ∨ (e = .returned (.bool false) ∧ Jx (pre ++ [x]) W' ∧ ∀ (k : Nat) ds, W1.heap[k]? = some (Obj.deferred ds) → W'.heap[k]? = some (Obj.deferred ds))) →
    J [] W →
    CallsIn F n P g (#[.func (.yield l) #[] #[]] ++ lb) W fun e W' => (∃ v, e = .returned v) ∧ ((∃ xs, S xs ∧ J xs W') ∨ (∃ pre, Sp pre ∧ Jx pre W'))
theorem wpIn_rangeFunc_nest {α : Type} {g : Operand} {ps : Array Tmp} {assign body : Code} {Q : Exit → Act → World → Prop} {a : Act} {w : World} {Mine : Nat → Prop} (hM : ∀ r, Mine r → r < w.heap.size)
    (hro : F.round = none) (h1 : 1 ≤ n) {gf : Nat} {lb : Array Value} (hg : a.eval g = .func (.func gf) #[] lb) (hFg : F.fn gf) (eg : ∀ args w, (callFunc gf args).run P w = .ok (.enter gf args) w)
    {encs : α → Array Value} {Kp : World → World → Prop} {S Sp Tell : List α → Prop} {w0 : World} (hseq : SeqNest Mine F (n - 1) P gf lb encs Kp S Sp Tell w0)
    (hKt : ∀ {A B C : World}, Kp A B → Kp B C → Kp A C) (hKb : ∀ (W : World) (l : Nat) (o o' : Loop), w.heap.size ≤ l → W.heap[l]? = some (.loop o) → Kp W (W.putObj l (.loop o'))) (hb0 : Below w0.heap.size w0 w) (hps : ∀ x, (encs x).size = ps.size)
    (I : List α → World → Prop) (Ix : Code → List α → World → Prop) (hI : OwnM Mine w.heap.size I) (hIx : ∀ c, OwnM Mine w.heap.size (Ix c)) (h0 : I [] w) (a₁ : α → Act)
    (hassign : ∀ (l : Nat) (x : α) (W : World) (K : Act → World → Prop), K (a₁ x) W →
      assign.wpIn (F.inRound l) (n - 1 - 1) P (Exit.then K (fun _ _ _ => False)) { tmps := (ps.zip (encs x)).foldl (fun t (p, v) => t.setIfInBounds p v) a.tmps, defers := [] } W)
    (hbody : ∀ (l : Nat) (pre : List α) (x : α) (W : World), I pre W → Tell (pre ++ [x]) → w.heap.size + 1 < W.heap.size → body.wpIn (F.inRound l) (n - 1 - 1) P (ownPostK Kp I Ix (pre ++ [x]) W) (a₁ x) W)
    (hdone : ∀ (D : Nat) (xs : List α) (W : World), D = w.heap.size → S xs → I xs W → W.heap[D]? = some (.deferred (some [])) → Q .normal { a with defers := { target := .collected D, args := #[] } :: a.defers } W)
    (hstop : ∀ (D : Nat) (c : Code) (pre : List α) (W : World), D = w.heap.size → Sp pre → Ix c pre W → W.heap[D]? = some (.deferred (some [])) → c.wpIn F n P Q { a with defers := { target := .collected D, args := #[] } :: a.defers } W) :
    (Code.rangeFunc g ps assign body).wpIn F n P Q a w := by
  refine wpIn_rangeFunc fun fn hfn => ?_
  rw [hro]
  obtain ⟨D, hD⟩ : ∃ D, D = w.heap.size := ⟨_, rfl⟩
  obtain ⟨R, hR⟩ : ∃ R : LoopState → Option Code → Loop, R = fun st pe => { state := st, pending := pe, fn, tmps := a.tmps, params := ps, assign, body, defers := w.heap.size } := ⟨_, rfl⟩
  obtain ⟨W1, hW1⟩ : ∃ W1, (w.alloc (.deferred (some []))).alloc (.loop (R .ready none)) = W1 := ⟨_, rfl⟩
  have hs1 : W1.heap.size = D + 1 + 1 := by rw [← hW1, hD]; simp
  have hL1 : W1.heap[D + 1]? = some (.loop (R .ready none)) := by
    rw [← hW1, hD]
    have := World.alloc_heap_new (w.alloc (.deferred (some []))) (.loop (R .ready none))
    rwa [World.size_alloc] at this
  have hD1 : W1.heap[D]? = some (.deferred (some [])) := by
    rw [← hW1, hD]
    exact (Below.heap_alloc _ _ _ (by simp)).trans (World.alloc_heap_new w _)
  have hI1 : I [] W1 := by rw [← hW1]; exact hI.new _ (hI.new _ h0)
  have hb1 : Below w0.heap.size w0 W1 := by
    rw [← hW1]
    exact hb0.trans ((((Below.refl _ w).alloc (Nat.le_refl _) _).alloc (by simp) _).mono hb0.size)
  -- the loop's own record and its block lie where the iterator does not write
  have stays : ∀ {A B : World} {row : Option Nat} {k : Nat} {o : Obj}, D ≤ k → k ≤ D + 1 → A.heap[k]? = some o → A.grownBy B row → (∀ r, row = some r → Mine r ∨ (W1.heap.size ≤ r ∧ ∃ o : Obj, A.heap[r]? = some o ∧ o.isCells = false)) → B.heap[k]? = some o := by
    intro A B row k o hk hk2 ho hgr hr
    refine (hgr.block k (Array.getElem?_eq_some_iff.1 ho).1 (fun e => ?_)).trans ho
    rcases hr k e.symm with h | ⟨h, _⟩
    · have := hM k h; omega
    · omega
  have wide : ∀ {A : World} {row : Option Nat}, (∀ r, row = some r → Mine r ∨ (W1.heap.size ≤ r ∧ ∃ o : Obj, A.heap[r]? = some o ∧ o.isCells = false)) → (∀ r, row = some r → Mine r ∨ (w.heap.size ≤ r ∧ ∃ o : Obj, A.heap[r]? = some o ∧ o.isCells = false)) := by
    intro A row hr r e
    rcases hr r e with h | ⟨hB, o, ho, hw⟩
    · exact .inl h
    · exact .inr ⟨by omega, o, ho, hw⟩
  refine ⟨D + 1, [{ target := .collected D, args := #[] }], W1, { target := .fn (.func gf) lb, args := #[.func (.yield (D + 1)) #[] #[]] }, W1, gf, #[.func (.yield (D + 1)) #[] #[]] ++ lb, W1, ?_, ?_, ?_, ?_, fun _ => h1, ?_⟩
  · rw [← hW1, hR, hD]; exact run_enterLoop_outer _ _ _ _ _
  · simp only [resolve, hg]
    simp [go_sem]
  · intro f' hf'
    simp [Target.leads] at hf'
    subst hf'
    exact hFg
  · simp [invoke, go_sem, eg]
  refine (hseq (D + 1) (fun pre W => I pre W ∧ W.heap[D + 1]? = some (.loop (R .ready none)) ∧ W.heap[D]? = some (.deferred (some [])))
    (fun pre W => ∃ c, Ix c pre W ∧ W.heap[D + 1]? = some (.loop (R .done (some c))) ∧ W.heap[D]? = some (.deferred (some []))) W1 hb1
    (fun s A B row hs hgr hr => ⟨hI s A B row hs.1 hgr (wide hr), stays (by omega) (by omega) hs.2.1 hgr hr, stays (Nat.le_refl _) (by omega) hs.2.2 hgr hr⟩)
    (fun s A B row hs hgr hr => by
      obtain ⟨c, hc, hl, hk⟩ := hs
      exact ⟨c, hIx c s A B row hc hgr (wide hr), stays (by omega) (by omega) hl hgr hr, stays (Nat.le_refl _) (by omega) hk hgr hr⟩)
    ?_ ⟨hI1, hL1, hD1⟩).mono ?_
  · rintro pre x W ⟨hi, hl, hk⟩ hlen
    have hlt : D + 1 < W.heap.size := (Array.getElem?_eq_some_iff.1 hl).1
    obtain ⟨busy, hbusy⟩ : ∃ b : Loop, b = { R .ready none with state := .busy } := ⟨_, rfl⟩
    obtain ⟨W2, hW2⟩ : ∃ W2, W.putObj (D + 1) (.loop busy) = W2 := ⟨_, rfl⟩
    have hy := run_yield (P := P) (args := encs x) hl (by rw [hR]; exact hps x)
    rw [hR] at hy
    refine ⟨fn, _, assign, body, hy, roundIn_of_wpIn hfn (hassign _ x W _ ⟨W2, by rw [← hW2, hbusy]; exact run_beginRound hl (by rw [hR]), ?_⟩)⟩
    have hl2 : W2.heap[D + 1]? = some (.loop busy) := by rw [← hW2]; exact World.putObj_heap_same hlt
    have hk2 : W2.heap[D]? = some (.deferred (some [])) := by rw [← hW2]; exact (World.putObj_heap_other (by omega)).trans hk
    have hw2 : Kp W W2 := by rw [← hW2]; exact hKb _ _ _ _ (by omega) hl
    have hi2 : I pre W2 := by rw [← hW2]; exact hI.turn _ hi (by omega) hl rfl
    refine wpIn_mono (hbody _ pre x _ hi2 hlen (by rw [← hD]; exact (Array.getElem?_eq_some_iff.1 hl2).1)) ?_
    have fin : ∀ (jump : Option Code) (W3 : World), KeepsOthers W2 W3 → ∃ W4, W3.putObj (D + 1) (.loop (R (if jump.isNone then .ready else .done) jump)) = W4 ∧
        (Instr.endRound (D + 1) jump).run P W3 = .ok (.bool jump.isNone) W4 ∧ W3.heap[D + 1]? = some (.loop busy) ∧
        W4.heap[D + 1]? = some (.loop (R (if jump.isNone then .ready else .done) jump)) ∧ W4.heap[D]? = some (.deferred (some [])) := fun jump W3 hk3 => by
      have hl3 := hk3.same _ _ hl2 rfl
      have := run_endRound (P := P) jump hl3
      rw [hbusy, hR] at this
      refine ⟨_, rfl, ?_, hl3, World.putObj_heap_same (Array.getElem?_eq_some_iff.1 hl3).1, (World.putObj_heap_other (by omega)).trans (hk3.same _ _ hk2 rfl)⟩
      rw [hR]
      exact this
    rintro e a3 W3 hp
    have out : ∀ c, KeepsOthers W2 W3 → Ix c (pre ++ [x]) W3 → ∃ v W4, (Instr.endRound (D + 1) (some c)).run P W3 = .ok v W4 ∧ Ending.returned v = .returned (.bool false) ∧ (Ix c (pre ++ [x]) W4 ∧ W4.heap[D + 1]? = some (.loop (R .done (some c))) ∧ W4.heap[D]? = some (.deferred (some []))) ∧ ∀ (k : Nat) ds, W.heap[k]? = some (Obj.deferred ds) → W4.heap[k]? = some (Obj.deferred ds) := fun c hk3 hi3 => by
      obtain ⟨W4, hW4, hr, hl3, hl4, hk4⟩ := fin (some c) W3 hk3
      exact ⟨_, W4, hr, rfl, ⟨by rw [← hW4]; exact (hIx c).turn _ hi3 (by omega) hl3 rfl, hl4, hk4⟩, fun k ds hkd => (by
        have hne : k ≠ D + 1 := fun e' => by subst e'; rw [hl] at hkd; cases hkd
        have h2 : W2.heap[k]? = some (Obj.deferred ds) := by rw [← hW2]; exact (World.putObj_heap_other hne).trans hkd
        rw [← hW4]
        exact (World.putObj_heap_other hne).trans (hk3.same k _ h2 rfl))⟩
    cases e with
    | normal =>
      obtain ⟨hk3, hkp3, hi3⟩ := hp
      obtain ⟨W4, hW4, hr, hl3, hl4, hk4⟩ := fin none W3 hk3
      refine ⟨_, W4, hr, .inl ⟨rfl, ⟨?_, hl4, hk4⟩, ?_⟩⟩
      · rw [← hW4]; exact hI.turn _ hi3 (by omega) hl3 rfl
      · rw [← hW4]; exact hKt (hKt hw2 hkp3) (hKb _ _ _ _ (by omega) hl3)
    | ret =>
      obtain ⟨v, W4, hr, hv, h4⟩ := out .ret hp.1 hp.2
      exact ⟨v, W4, hr, .inr ⟨hv, ⟨.ret, h4.1⟩, h4.2⟩⟩
    | exit id =>
      obtain ⟨v, W4, hr, hv, h4⟩ := out (.exit id) hp.1 hp.2
      exact ⟨v, W4, hr, .inr ⟨hv, ⟨.exit id, h4.1⟩, h4.2⟩⟩
    | goto t =>
      obtain ⟨v, W4, hr, hv, h4⟩ := out (.goto t) hp.1 hp.2
      exact ⟨v, W4, hr, .inr ⟨hv, ⟨.goto t, h4.1⟩, h4.2⟩⟩
    | panic ch => exact hp.elim
    | outgrown => exact hp.elim
  · rintro e W2 ⟨⟨v, rfl⟩, (⟨xs, hS, hi, hl, hk⟩ | ⟨pre, hSp, c, hi, hl, hk⟩)⟩
    · have hr := run_endLoop (P := P) hl (by rw [hR]; simp)
      rw [hR] at hr
      refine ⟨none, _, hr, ?_⟩
      exact hdone D xs _ hD hS (hI.turn _ hi (by omega) hl rfl) ((World.putObj_heap_other (by omega)).trans hk)
    · have hr := run_endLoop (P := P) hl (by rw [hR]; simp)
      rw [hR] at hr
      refine ⟨some c, _, hr, ?_⟩
      exact hstop D c pre _ hD hSp ((hIx c).turn _ hi (by omega) hl rfl) ((World.putObj_heap_other (by omega)).trans hk)
/-- blocks of type te, and what is put off, lie as they lay -/
structure KeepTy (te : TypeId) (A B : World) : Prop where
  size : A.heap.size ≤ B.heap.size
  row : ∀ g cs, Blk A g te cs → Blk B g te cs
  put : ∀ (k : Nat) ds, A.heap[k]? = some (Obj.deferred ds) → B.heap[k]? = some (Obj.deferred ds)
theorem KeepTy.trans {te : TypeId} {A B C : World} (h : KeepTy te A B) (k : KeepTy te B C) : KeepTy te A C := ⟨Nat.le_trans h.size k.size, fun g cs hg => k.row g cs (h.row g cs hg), fun q ds hq => k.put q ds (h.put q ds hq)⟩
theorem KeepTy.below {te : TypeId} {A B : World} (h : Below A.heap.size A B) : KeepTy te A B := ⟨h.size, fun g cs hg => hg.below h hg.lt, fun k ds hk => (h.block k (Array.getElem?_eq_some_iff.1 hk).1).trans hk⟩
theorem keepTy_b {te : TypeId} (W : World) (l : Nat) (o o' : Loop) (h : W.heap[l]? = some (.loop o)) : KeepTy te W (W.putObj l (.loop o')) := by
  have hg := grownBy_putObj' W l (.loop o')
  refine ⟨hg.size, fun g cs hB => hB.grown hg (fun e => ?_), fun k ds hk => ?_⟩
  · have e' : g = l := by simpa using e
    subst e'
    unfold Blk at hB
    rw [h] at hB
    cases hB
  · refine (hg.block k (Array.getElem?_eq_some_iff.1 hk).1 (fun e => ?_)).trans hk
    have e' : k = l := by simpa using e
    subst e'
    rw [h] at hk
    cases hk
theorem SeqTells.nest {α : Type} {Mine : Nat → Prop} {g : Nat} {lb : Array Value} {encs : α → Array Value} {Kp : World → World → Prop} {S Sp Tell : List α → Prop} {w : World} (h : SeqTells Mine F n P g lb encs Kp S Sp Tell w) : SeqNest Mine F n P g lb encs Kp S Sp Tell w :=
  fun l J Jx W hW hJ hJx hY h0 => h l J Jx W hW hJ.abM hJx.abM (fun pre x W1 h1 h2 => YieldAt.mono (hY pre x W1 h1 h2) fun e w2 he => by
    rcases he with he | he
    · exact .inl he
    · exact .inr ⟨he.1, he.2.1⟩) h0
end Sw
/- An iterator that yields from within a range of its own: the law for its caller, who may be such an iterator too. Over any program. -/
set_option linter.unusedVariables false
set_option linter.unusedSimpArgs false
namespace Sw
open Go Go.RowKit
variable {F : Fence} {n : Nat} {P : Program}
theorem keepsF_put {B l : Nat} {W : World} (o' : Obj) (h : l < B) : KeepsFrom B W (W.putObj l o') := ⟨(grownBy_putObj' W l o').size, fun k o hB hk _ => (World.putObj_heap_other (by omega)).trans hk⟩
theorem _root_.Go.KeepsFrom.far {B B' : Nat} {W W' : World} (h : KeepsFrom B W W') (hB : B ≤ B') : KeepsFrom B' W W' := ⟨h.size, fun k o hk ho hc => h.same k o (by omega) ho hc⟩
/-- what a round owes, where what lies from B on is kept but for cells -/
def ownPostF {α : Type} (B : Nat) (Kp : World → World → Prop) (I : List α → World → Prop) (Ix : Code → List α → World → Prop) (xs : List α) (W : World) : Exit → Act → World → Prop
  | .normal, _, W' => KeepsFrom B W W' ∧ Kp W W' ∧ I xs W'
  | .ret, _, W' => KeepsFrom B W W' ∧ Ix .ret xs W'
  | .exit id, _, W' => KeepsFrom B W W' ∧ Ix (.exit id) xs W'
  | .goto t, _, W' => KeepsFrom B W W' ∧ Ix (.goto t) xs W'
  | .panic _, _, _ => False
  | .outgrown, _, _ => False
/-- an iterator's contract, where it may range over another one and yield from within: a yield keeps what lies behind the caller's record, but for cells -/
def SeqIn {α : Type} (Mine : Nat → Prop) (F : Fence) (n : Nat) (P : Program) (g : Nat) (lb : Array Value) (encs : α → Array Value) (Kp : World → World → Prop) (S Sp Tell : List α → Prop) (w : World) : Prop :=
  ∀ (l : Nat) (J Jx : List α → World → Prop) (W : World), Below w.heap.size w W → l < W.heap.size → AbN Mine W.heap.size J → AbN Mine W.heap.size Jx →
    (∀ pre x W1, J pre W1 → Tell (pre ++ [x]) → YieldAt F (n - 1) P l (encs x) W1 fun e W' =>
      (e = .returned (.bool true) ∧ J (pre ++ [x]) W' ∧ Kp W1 W' ∧ KeepsFrom (l + 1) W1 W') ∨ (e = .returned (.bool false) ∧ Jx (pre ++ [x]) W' ∧ KeepsFrom (l + 1) W1 W')) →
    J [] W →
    CallsIn F n P g (#[.func (.yield l) #[] #[]] ++ lb) W fun e W' => (∃ v, e = .returned v) ∧ ((∃ xs, S xs ∧ J xs W') ∨ (∃ pre, Sp pre ∧ Jx pre W'))
theorem SeqTells.into {α : Type} {Mine : Nat → Prop} {g : Nat} {lb : Array Value} {encs : α → Array Value} {Kp : World → World → Prop} {S Sp Tell : List α → Prop} {w : World} (h : SeqTells Mine F n P g lb encs Kp S Sp Tell w) : SeqIn Mine F n P g lb encs Kp S Sp Tell w :=
  fun l J Jx W hW _ hJ hJx hY h0 => h l J Jx W hW hJ.abM hJx.abM (fun pre x W1 h1 h2 => YieldAt.mono (hY pre x W1 h1 h2) fun e w2 he => by
    rcases he with he | he
    · exact .inl ⟨he.1, he.2.1, he.2.2.1⟩
    · exact .inr ⟨he.1, he.2.1⟩) h0
theorem wpIn_rangeFunc_in {α : Type} {g : Operand} {ps : Array Tmp} {assign body : Code} {Q : Exit → Act → World → Prop} {a : Act} {w : World} {Mine : Nat → Prop} (hM : ∀ r, Mine r → r < w.heap.size)
    (hro : F.round = none) (h1 : 1 ≤ n) {gf : Nat} {lb : Array Value} (hg : a.eval g = .func (.func gf) #[] lb) (hFg : F.fn gf) (eg : ∀ args w, (callFunc gf args).run P w = .ok (.enter gf args) w)
    {encs : α → Array Value} {Kp : World → World → Prop} {S Sp Tell : List α → Prop} {w0 : World} (hseq : SeqIn Mine F (n - 1) P gf lb encs Kp S Sp Tell w0)
    (hKt : ∀ {A B C : World}, Kp A B → Kp B C → Kp A C) (hKb : ∀ (W : World) (l : Nat) (o o' : Loop), w.heap.size ≤ l → W.heap[l]? = some (.loop o) → Kp W (W.putObj l (.loop o'))) (hb0 : Below w0.heap.size w0 w) (hps : ∀ x, (encs x).size = ps.size)
    (I : List α → World → Prop) (Ix : Code → List α → World → Prop) (hI : OwnM Mine w.heap.size I) (hIx : ∀ c, OwnM Mine w.heap.size (Ix c)) (h0 : I [] w) (a₁ : α → Nat → Act) (wA : α → World → World) (J : α → Nat → List α → World → Prop) (hJ : ∀ x n, OwnM Mine w.heap.size (J x n))
    (hA : ∀ pre x W, I pre W → Tell (pre ++ [x]) → J x W.heap.size pre (wA x W) ∧ KeepsOthers W (wA x W) ∧ Kp W (wA x W))
    (hassign : ∀ (l : Nat) (x : α) (n₀ : Nat) (W : World) (_ : W.heap.size = n₀) (K : Act → World → Prop), K (a₁ x n₀) (wA x W) →
      assign.wpIn (F.inRound l) (n - 1 - 1) P (Exit.then K (fun _ _ _ => False)) { tmps := (ps.zip (encs x)).foldl (fun t (p, v) => t.setIfInBounds p v) a.tmps, defers := [] } W)
    (hbody : ∀ (l : Nat) (pre : List α) (x : α) (n₀ : Nat) (W : World), J x n₀ pre W → Tell (pre ++ [x]) → w.heap.size + 1 < W.heap.size → body.wpIn (F.inRound l) (n - 1 - 1) P (ownPostF w.heap.size Kp I Ix (pre ++ [x]) W) (a₁ x n₀) W)
    (hdone : ∀ (D : Nat) (xs : List α) (W : World), D = w.heap.size → S xs → I xs W → W.heap[D]? = some (.deferred (some [])) → Q .normal { a with defers := { target := .collected D, args := #[] } :: a.defers } W)
    (hstop : ∀ (D : Nat) (c : Code) (pre : List α) (W : World), D = w.heap.size → Sp pre → Ix c pre W → W.heap[D]? = some (.deferred (some [])) → c.wpIn F n P Q { a with defers := { target := .collected D, args := #[] } :: a.defers } W) :
    (Code.rangeFunc g ps assign body).wpIn F n P Q a w := by
  refine wpIn_rangeFunc fun fn hfn => ?_
  rw [hro]
  obtain ⟨D, hD⟩ : ∃ D, D = w.heap.size := ⟨_, rfl⟩
  obtain ⟨R, hR⟩ : ∃ R : LoopState → Option Code → Loop, R = fun st pe => { state := st, pending := pe, fn, tmps := a.tmps, params := ps, assign, body, defers := w.heap.size } := ⟨_, rfl⟩
  obtain ⟨W1, hW1⟩ : ∃ W1, (w.alloc (.deferred (some []))).alloc (.loop (R .ready none)) = W1 := ⟨_, rfl⟩
  have hs1 : W1.heap.size = D + 1 + 1 := by rw [← hW1, hD]; simp
  have hL1 : W1.heap[D + 1]? = some (.loop (R .ready none)) := by
    rw [← hW1, hD]
    have := World.alloc_heap_new (w.alloc (.deferred (some []))) (.loop (R .ready none))
    rwa [World.size_alloc] at this
  have hD1 : W1.heap[D]? = some (.deferred (some [])) := by
    rw [← hW1, hD]
    exact (Below.heap_alloc _ _ _ (by simp)).trans (World.alloc_heap_new w _)
  have hI1 : I [] W1 := by rw [← hW1]; exact hI.new _ (hI.new _ h0)
  have hb1 : Below w0.heap.size w0 W1 := by
    rw [← hW1]
    exact hb0.trans ((((Below.refl _ w).alloc (Nat.le_refl _) _).alloc (by simp) _).mono hb0.size)
  -- the loop's own record and its block lie where the iterator does not write
  have stays : ∀ {A B : World} {row : Option Nat} {k : Nat} {o : Obj}, D ≤ k → k ≤ D + 1 → A.heap[k]? = some o → A.grownBy B row → (∀ r, row = some r → Mine r ∨ (W1.heap.size ≤ r ∧ ∃ o : Obj, A.heap[r]? = some o ∧ o.isCells = false)) → B.heap[k]? = some o := by
    intro A B row k o hk hk2 ho hgr hr
    refine (hgr.block k (Array.getElem?_eq_some_iff.1 ho).1 (fun e => ?_)).trans ho
    rcases hr k e.symm with h | ⟨h, _⟩
    · have := hM k h; omega
    · omega
  have wide : ∀ {A : World} {row : Option Nat}, (∀ r, row = some r → Mine r ∨ (W1.heap.size ≤ r ∧ ∃ o : Obj, A.heap[r]? = some o ∧ o.isCells = false)) → (∀ r, row = some r → Mine r ∨ (w.heap.size ≤ r ∧ ∃ o : Obj, A.heap[r]? = some o ∧ o.isCells = false)) := by
    intro A row hr r e
    rcases hr r e with h | ⟨hB, o, ho, hw⟩
    · exact .inl h
    · exact .inr ⟨by omega, o, ho, hw⟩
  refine ⟨D + 1, [{ target := .collected D, args := #[] }], W1, { target := .fn (.func gf) lb, args := #[.func (.yield (D + 1)) #[] #[]] }, W1, gf, #[.func (.yield (D + 1)) #[] #[]] ++ lb, W1, ?_, ?_, ?_, ?_, fun _ => h1, ?_⟩
  · rw [← hW1, hR, hD]; exact run_enterLoop_outer _ _ _ _ _
  · simp only [resolve, hg]
    simp [go_sem]
  · intro f' hf'
    simp [Target.leads] at hf'
    subst hf'
    exact hFg
  · simp [invoke, go_sem, eg]
  refine (hseq (D + 1) (fun pre W => I pre W ∧ W.heap[D + 1]? = some (.loop (R .ready none)) ∧ W.heap[D]? = some (.deferred (some [])))
    (fun pre W => ∃ c, Ix c pre W ∧ W.heap[D + 1]? = some (.loop (R .done (some c))) ∧ W.heap[D]? = some (.deferred (some []))) W1 hb1 (by omega)
    (fun s A B row hs hgr hr => ⟨hI s A B row hs.1 hgr (wide hr), stays (by omega) (by omega) hs.2.1 hgr hr, stays (Nat.le_refl _) (by omega) hs.2.2 hgr hr⟩)
    (fun s A B row hs hgr hr => by
      obtain ⟨c, hc, hl, hk⟩ := hs
      exact ⟨c, hIx c s A B row hc hgr (wide hr), stays (by omega) (by omega) hl hgr hr, stays (Nat.le_refl _) (by omega) hk hgr hr⟩)
    ?_ ⟨hI1, hL1, hD1⟩).mono ?_
  · rintro pre x W ⟨hi, hl0, hk0⟩ hlen
    obtain ⟨hjA, hoA, hpA⟩ := hA pre x W hi hlen
    have hl := hoA.same _ _ hl0 rfl
    have hk := hoA.same _ _ hk0 rfl
    have hlt : D + 1 < (wA x W).heap.size := (Array.getElem?_eq_some_iff.1 hl).1
    obtain ⟨busy, hbusy⟩ : ∃ b : Loop, b = { R .ready none with state := .busy } := ⟨_, rfl⟩
    obtain ⟨W2, hW2⟩ : ∃ W2, (wA x W).putObj (D + 1) (.loop busy) = W2 := ⟨_, rfl⟩
    have hy := run_yield (P := P) (args := encs x) hl0 (by rw [hR]; exact hps x)
    rw [hR] at hy
    refine ⟨fn, _, assign, body, hy, roundIn_of_wpIn hfn (hassign _ x _ W rfl _ ⟨W2, by rw [← hW2, hbusy]; exact run_beginRound hl (by rw [hR]), ?_⟩)⟩
    have hl2 : W2.heap[D + 1]? = some (.loop busy) := by rw [← hW2]; exact World.putObj_heap_same hlt
    have hk2 : W2.heap[D]? = some (.deferred (some [])) := by rw [← hW2]; exact (World.putObj_heap_other (by omega)).trans hk
    have hw2 : Kp W W2 := hKt hpA (by rw [← hW2]; exact hKb _ _ _ _ (by omega) hl)
    have hi2 : J x W.heap.size pre W2 := by rw [← hW2]; exact (hJ x _).turn _ hjA (by omega) hl rfl
    refine wpIn_mono (hbody _ pre x _ _ hi2 hlen (by rw [← hD]; exact (Array.getElem?_eq_some_iff.1 hl2).1)) ?_
    have fin : ∀ (jump : Option Code) (W3 : World), KeepsFrom w.heap.size W2 W3 → ∃ W4, W3.putObj (D + 1) (.loop (R (if jump.isNone then .ready else .done) jump)) = W4 ∧
        (Instr.endRound (D + 1) jump).run P W3 = .ok (.bool jump.isNone) W4 ∧ W3.heap[D + 1]? = some (.loop busy) ∧
        W4.heap[D + 1]? = some (.loop (R (if jump.isNone then .ready else .done) jump)) ∧ W4.heap[D]? = some (.deferred (some [])) ∧ KeepsFrom (D + 1 + 1) W W4 := fun jump W3 hk3 => by
      have hl3 := hk3.same _ _ (by omega) hl2 rfl
      have hkf : KeepsFrom (D + 1 + 1) W (W3.putObj (D + 1) (.loop (R (if jump.isNone then .ready else .done) jump))) := (((hoA.from _).trans (by rw [← hW2]; exact keepsF_put _ (by omega))).trans (hk3.far (by omega))).trans (keepsF_put _ (by omega))
      have := run_endRound (P := P) jump hl3
      rw [hbusy, hR] at this
      refine ⟨_, rfl, ?_, hl3, World.putObj_heap_same (Array.getElem?_eq_some_iff.1 hl3).1, (World.putObj_heap_other (by omega)).trans (hk3.same _ _ (by omega) hk2 rfl), hkf⟩
      rw [hR]
      exact this
    rintro e a3 W3 hp
    have out : ∀ c, KeepsFrom w.heap.size W2 W3 → Ix c (pre ++ [x]) W3 → ∃ v W4, (Instr.endRound (D + 1) (some c)).run P W3 = .ok v W4 ∧ Ending.returned v = .returned (.bool false) ∧ (Ix c (pre ++ [x]) W4 ∧ W4.heap[D + 1]? = some (.loop (R .done (some c))) ∧ W4.heap[D]? = some (.deferred (some []))) ∧ KeepsFrom (D + 1 + 1) W W4 := fun c hk3 hi3 => by
      obtain ⟨W4, hW4, hr, hl3, hl4, hk4, hkf⟩ := fin (some c) W3 hk3
      exact ⟨_, W4, hr, rfl, ⟨by rw [← hW4]; exact (hIx c).turn _ hi3 (by omega) hl3 rfl, hl4, hk4⟩, hkf⟩
    cases e with
    | normal =>
      obtain ⟨hk3, hkp3, hi3⟩ := hp
      obtain ⟨W4, hW4, hr, hl3, hl4, hk4, hkf⟩ := fin none W3 hk3
      refine ⟨_, W4, hr, .inl ⟨rfl, ⟨?_, hl4, hk4⟩, ?_, hkf⟩⟩
      · rw [← hW4]; exact hI.turn _ hi3 (by omega) hl3 rfl
      · rw [← hW4]; exact hKt (hKt hw2 hkp3) (hKb _ _ _ _ (by omega) hl3)
    | ret =>
      obtain ⟨v, W4, hr, hv, h4⟩ := out .ret hp.1 hp.2
      exact ⟨v, W4, hr, .inr ⟨hv, ⟨.ret, h4.1⟩, h4.2⟩⟩
    | exit id =>
      obtain ⟨v, W4, hr, hv, h4⟩ := out (.exit id) hp.1 hp.2
      exact ⟨v, W4, hr, .inr ⟨hv, ⟨.exit id, h4.1⟩, h4.2⟩⟩
    | goto t =>
      obtain ⟨v, W4, hr, hv, h4⟩ := out (.goto t) hp.1 hp.2
      exact ⟨v, W4, hr, .inr ⟨hv, ⟨.goto t, h4.1⟩, h4.2⟩⟩
    | panic ch => exact hp.elim
    | outgrown => exact hp.elim
  · rintro e W2 ⟨⟨v, rfl⟩, (⟨xs, hS, hi, hl, hk⟩ | ⟨pre, hSp, c, hi, hl, hk⟩)⟩
    · have hr := run_endLoop (P := P) hl (by rw [hR]; simp)
      rw [hR] at hr
      refine ⟨none, _, hr, ?_⟩
      exact hdone D xs _ hD hS (hI.turn _ hi (by omega) hl rfl) ((World.putObj_heap_other (by omega)).trans hk)
    · have hr := run_endLoop (P := P) hl (by rw [hR]; simp)
      rw [hR] at hr
      refine ⟨some c, _, hr, ?_⟩
      exact hstop D c pre _ hD hSp ((hIx c).turn _ hi (by omega) hl rfl) ((World.putObj_heap_other (by omega)).trans hk)
end Sw
/- The queues of diff.Moves in memory: what is gone, by prints. -/
set_option linter.unusedVariables false
set_option linter.unusedSimpArgs false
namespace Sw
open Go Go.RowKit
section
variable {α : Type} {P : Program} {k : TypeId} {enc : α → Value} {lit : α → Lit} {ok : α → Prop} {w w' : World} {b n : Nat} {f : α → Option Value}
theorem MapV.obj (h : MapV w P k lit ok b n f) : ∃ es c, w.heap[b]? = some (.map es c) := by
  obtain ⟨D, ⟨es, c, h0, _⟩, _⟩ := h
  exact ⟨es, c, h0⟩
theorem MapV.ne_blk (h : MapV w P k lit ok b n f) {g : Nat} {t : TypeId} {cs : Array Value} (hB : Blk w g t cs) : g ≠ b := fun e => by
  obtain ⟨es, c, h0⟩ := h.obj
  subst e
  unfold Blk at hB
  rw [h0] at hB
  cases hB
theorem MapV.ne_own (h : MapV w P k lit ok b n f) {base m size : Nat} {e : TypeId} {v : Value} {xs : List Value} (ho : w.ownsRow base e size v m xs) : v.ownBlock ≠ some b := fun hv => by
  obtain ⟨es, c, h0⟩ := h.obj
  have := own_cells ho b _ hv h0
  cases this
/-- a lookup in a map, the same in all worlds of a class -/
theorem quiet_lookV {C : World → Prop} {o : Oper} {a : Act} {K : Act → Prop} (m x : Operand) (t : TypeId) (hop : o.op = Op.lookup t m x false) (e : TypeId) (hK : KeyV P k enc lit ok) (ht : P.underlying t = some (.map k e)) {z : Value} (hz : ∀ w, (zeroValue e).run P w = .ok z w)
    (b n : Nat) (f : α → Option Value) (hm : a.eval m = .map (some b)) (h : ∀ w, C w → MapV w P k lit ok b n f) (i : α) (hx : a.eval x = enc i) (hi : ok i) (hk : K (a.put o.dst ((f i).getD z))) : o.quiet P a C K :=
  ⟨_, fun w hC => by
    unfold Oper.quietAt execOp
    have hrun := (h w hC).look hK ht (hz w) hi
    simp [hop, hm, hx, hrun, Result.andThen, Oper.quietUpon], hk⟩
/-- a lookup in a map inside a round, guarded or not -/
theorem wpListIn_lookV {F : Fence} {nF lr : Nat} {ops : Array Oper} {rest : List Oper} {o : Oper} {a : Act} {Q : Exit → Act → World → Prop} (hw : Region.wanted o (yielded ops a.tmps) = true) (m x : Operand) (t : TypeId) (hop : o.op = Op.lookup t m x false) (e : TypeId) (hK : KeyV P k enc lit ok) (ht : P.underlying t = some (.map k e)) {z : Value} (hz : (zeroValue e).run P w = .ok z w)
    (b n : Nat) (f : α → Option Value) (hm : a.eval m = .map (some b)) (h : MapV w P k lit ok b n f) (i : α) (hx : a.eval x = enc i) (hi : ok i)
    (hC : wpListIn F nF P ops Q rest (a.put o.dst ((f i).getD z)) w) : wpListIn F nF P ops Q (o :: rest) a w := by
  refine wpListIn_step fun K' hK' => ?_
  rw [if_pos hw]
  have hrun := h.look hK ht hz hi
  unfold Oper.wpIn
  refine ⟨fun f hf => by simp [Oper.about, hop] at hf, ?_⟩
  rw [Oper.semAt_eq _ _ _ (fun c hc => by rw [hop] at hc; cases hc)]
  simp [execOp, hop, hm, hx, hrun, Result.andThen]
  exact hK' _ _ hC
end
end Sw
namespace Go.Proofs.YtihiakkeloejlaaGreatDoor
open Go Go.RowKit
open Sw
theorem okP_mk {p : Pr} (h1 : -9223372036854775808 ≤ p.kind ∧ p.kind ≤ 9223372036854775807) (h2 : -9223372036854775808 ≤ p.mode ∧ p.mode ≤ 9223372036854775807) (h3 : 0 ≤ p.time ∧ p.time < 4294967296) (h4 : -9223372036854775808 ≤ p.size ∧ p.size ≤ 9223372036854775807) (h5 : 0 ≤ p.sum ∧ p.sum < 4294967296) : okP p := by
  intro a ha
  simp only [lsP, List.mem_cons, List.not_mem_nil, or_false] at ha
  have i64 : ∀ i : Int, -9223372036854775808 ≤ i ∧ i ≤ 9223372036854775807 → (Lit.int .i64 i).wf = true := fun i h => by
    unfold Lit.wf; simp [IntKind.min, IntKind.max, IntKind.signed, IntKind.bits]; omega
  have u32 : ∀ i : Int, 0 ≤ i ∧ i < 4294967296 → (Lit.int .u32 i).wf = true := fun i h => by
    unfold Lit.wf; simp [IntKind.min, IntKind.max, IntKind.signed, IntKind.bits]; omega
  rcases ha with rfl | rfl | rfl | rfl | rfl
  · exact i64 _ h1
  · exact i64 _ h2
  · exact u32 _ h3
  · exact i64 _ h4
  · exact u32 _ h5
theorem okP_getT {xs : List NE} (hi : TI xs) (ht : ∀ e ∈ xs, 0 ≤ e.2.time ∧ e.2.time < 4294967296) (hd : ∀ e ∈ xs, e.2.data.size ≤ maxLen) (p : ByteArray) : okP (printN (getT xs p)) := by
  have hs : ∀ l : List UInt8, ((ofS l : Nat) : Int) < 4294967296 := fun l => by
    have := ofS_lt l
    omega
  rcases Classical.em (∃ e ∈ xs, e.1 = p) with ⟨e, he, rfl⟩ | hn
  · rw [getT_in hi.up he]
    have hr := (hi.nod e he).2
    have h3 := ht e he
    have h4 := hd e he
    unfold maxLen at h4
    unfold nodeR at hr
    by_cases k0 : ¬ e.2.kind = 0 ∧ ¬ e.2.kind = 1 ∧ ¬ e.2.kind = 2
    · rw [if_pos k0] at hr; omega
    · rw [if_neg k0] at hr
      by_cases k1 : (e.2.kind = 0 ∧ ¬ (e.2.mode = 0 ∧ e.2.time = 0 ∧ e.2.data.data.toList = [])) ∨ (e.2.kind = 2 ∧ (¬ e.2.data.data.toList = [] ∨ ¬ e.2.time = 0))
      · rw [if_pos k1] at hr; omega
      · rw [if_neg k1] at hr
        by_cases k2 : ¬ (0 ≤ e.2.mode ∧ e.2.mode ≤ 511)
        · rw [if_pos k2] at hr; omega
        · refine okP_mk (by show _ ≤ e.2.kind ∧ e.2.kind ≤ _; omega) (by show _ ≤ e.2.mode ∧ e.2.mode ≤ _; omega) h3 (by show _ ≤ (e.2.data.size : Int) ∧ (e.2.data.size : Int) ≤ _; omega) ?_
          have := hs e.2.data.data.toList
          unfold printN
          simp only
          split <;> omega
  · rw [getT_out hi.up (fun e he h => hn ⟨e, he, h⟩)]
    exact okP_mk (by decide) (by decide) (by decide) (by decide) (by decide)
theorem zeroSlS (w : World) : (zeroValue 71).run Tryz.prog w = .ok (.slice none 0 0) w := by kernel_rfl
/-- a queue -/
def QV (B0 : Nat) (V : World) : Option Value → List ByteArray → Prop
  | none, l => l = []
  | some u, l => V.ownsRow B0 9 1 u l.length (l.map Value.string)
theorem QV.own {B0 : Nat} {V : World} {o : Option Value} {l : List ByteArray} (h : QV B0 V o l) : V.ownsRow B0 9 1 (o.getD (.slice none 0 0)) l.length (l.map Value.string) := by
  cases o with
  | none => have h' : l = [] := h; subst h'; exact World.ownsRow_nil _ _ _ _
  | some u => exact h
theorem QV.kept {B0 : Nat} {V V' : World} {o : Option Value} {l : List ByteArray} {row : Option Nat} (h : QV B0 V o l) (hg : V.grownBy V' row) (hne : ∀ u, o = some u → u.ownBlock = none ∨ u.ownBlock ≠ row) : QV B0 V' o l := by
  cases o with
  | none => exact h
  | some u => exact World.ownsRow.kept h hg (hne u rfl)
theorem goneQ_one (xs : List NE) (E : List ChE) (c : ChE) (k : Pr) : goneQ xs (E ++ [c]) k = goneQ xs E k ++ if (c.1 = 2 ∧ fileN (getT xs c.2) = true) ∧ printN (getT xs c.2) = k then [c.2] else [] := by
  have := goneQ_step xs (E ++ [c]) E.length (by simp) k
  rw [List.take_of_length_le (by simp), List.take_append_of_le_length (Nat.le_refl _), List.take_length] at this
  simpa using this
/-- the map of queues -/
structure GoneF (xs : List NE) (B0 mb : Nat) (E : List ChE) (f : Pr → Option Value) (V : World) : Prop where
  map : MapV V Tryz.prog 78 litP okP mb E.length f
  q : ∀ k, okP k → QV B0 V (f k) (goneQ xs E k)
  ap : ∀ k k', okP k → okP k' → k ≠ k' → ∀ u u' g, f k = some u → f k' = some u' → u.ownBlock = some g → u'.ownBlock ≠ some g
theorem GoneF.kept {xs : List NE} {B0 mb : Nat} {E : List ChE} {f : Pr → Option Value} {V V' : World} {row : Option Nat} (h : GoneF xs B0 mb E f V) (hg : V.grownBy V' row) (hr : ∀ r, row = some r → r ≠ mb ∧ ∃ o : Obj, V.heap[r]? = some o ∧ o.isCells = false) : GoneF xs B0 mb E f V' :=
  ⟨h.map.kept hg (fun e => (hr mb e.symm).1 rfl), fun k hk => (h.q k hk).kept hg (fun u hu => by
    by_cases hn : u.ownBlock = none
    · exact .inl hn
    · right
      intro e
      cases row with
      | none => exact hn e
      | some r =>
        obtain ⟨_, o, ho, hc⟩ := hr r rfl
        have hq := h.q k hk
        rw [hu] at hq
        have := own_cells hq r o e ho
        rw [hc] at this
        cases this), h.ap⟩
theorem GoneF.below {xs : List NE} {B0 mb : Nat} {E : List ChE} {f : Pr → Option Value} {V V' : World} (h : GoneF xs B0 mb E f V) (hb : Below V.heap.size V V') : GoneF xs B0 mb E f V' := h.kept (grown_below (row := none) hb) (fun r e => by cases e)
/-- a change that is no file's that went -/
theorem GoneF.skip {xs : List NE} {B0 mb : Nat} {E : List ChE} {f : Pr → Option Value} {V : World} (h : GoneF xs B0 mb E f V) {c : ChE} (hc : ¬ (c.1 = 2 ∧ fileN (getT xs c.2) = true)) : GoneF xs B0 mb (E ++ [c]) f V :=
  ⟨h.map.mono (by simp), fun k hk => by
    rw [goneQ_one, if_neg (fun h => hc h.1), List.append_nil]
    exact h.q k hk, h.ap⟩
def tsQ : List TypeId := [9]
/-- a file that went: its queue grows -/
theorem GoneF.add {xs : List NE} {B0 mb : Nat} {E : List ChE} {f : Pr → Option Value} {V V2 V3 : World} (h : GoneF xs B0 mb E f V) {c : ChE} (hc : c.1 = 2 ∧ fileN (getT xs c.2) = true) {k : Pr} (hkp : printN (getT xs c.2) = k) (hk : okP k) {g cap : Nat}
    (hown : V2.ownsRow B0 9 1 (.slice (some ⟨g, 0, none⟩) ((goneQ xs E k).length + 1) cap) ((goneQ xs E k).length + 1) ((goneQ xs E k).map Value.string ++ (#[Value.string c.2] : Array Value).toList))
    (hg : V.grownBy V2 ((f k).getD (.slice none 0 0)).ownBlock) (hb : ((f k).getD (.slice none 0 0)).ownBlock = some g ∨ g = V.heap.size)
    (hm : MapV V3 Tryz.prog 78 litP okP mb (E.length + 1) (updV f k (.slice (some ⟨g, 0, none⟩) ((goneQ xs E k).length + 1) cap))) (hg3 : V2.grownBy V3 (some mb)) (hB0 : B0 ≤ mb) :
    GoneF xs B0 mb (E ++ [c]) (updV f k (.slice (some ⟨g, 0, none⟩) ((goneQ xs E k).length + 1) cap)) V3 ∧ KeepR B0 tsQ V V2 ∧ KeepR B0 tsQ V V3 ∧ ∀ (j : Nat) (o : Obj), j ≠ mb → V.heap[j]? = some o → o.isCells = false → V3.heap[j]? = some o := by
  have hq0 := (h.q k hk).own
  have hvm := h.map.ne_own hq0
  have hm2 := h.map.kept hg (fun e => hvm e.symm)
  have hvl : ∀ j, ((f k).getD (.slice none 0 0)).ownBlock = some j → B0 ≤ j ∧ j < V.heap.size := fun j hj => hq0.lt j hj
  have hB0V : B0 ≤ V.heap.size := Nat.le_of_lt (Nat.lt_of_le_of_lt hB0 h.map.lt)
  have hbl2 : Below B0 V V2 := (Below.refl B0 V).grown hg hB0V (fun j hj => (hvl j hj).1)
  have hbl : Below B0 V V3 := hbl2.grown hg3 (Nat.le_trans hB0V hg.size) (fun j hj => by cases hj; exact hB0)
  have row2 : ∀ j t cs, Blk V j t cs → ¬ t ∈ tsQ → Blk V2 j t cs := fun j t cs hB ht => hB.grown hg (fun e => own_ne_blk hq0 hB (fun e => ht (by rw [← e]; decide)) e.symm)
  refine ⟨⟨?_, fun k' hk' => ?_, fun k1 k2 hk1 hk2 hne u u' j hu hu' hj => ?_⟩, ⟨hbl2, row2⟩, ⟨hbl, fun j t cs hB ht => ?_⟩, fun j o hj ho hcs => ?_⟩
  · rw [List.length_append]; exact hm
  · rw [goneQ_one]
    by_cases e : k' = k
    · subst e
      unfold updV
      rw [if_pos rfl, if_pos ⟨hc, hkp⟩]
      show V3.ownsRow _ _ _ _ _ _
      rw [List.length_append, List.map_append]
      exact hown.kept hg3 (.inr (fun e => hm2.ne_own hown e))
    · unfold updV
      rw [if_neg e, if_neg (fun h => e (h.2.symm.trans hkp)), List.append_nil]
      have h1 := (h.q k' hk').kept hg (fun u hu => by
        by_cases hn : u.ownBlock = none
        · exact .inl hn
        · right
          intro e2
          obtain ⟨j, hj⟩ := Option.ne_none_iff_exists'.1 hn
          rw [hj] at e2
          cases hfk : f k with
          | none => rw [hfk] at e2; simp [Value.ownBlock] at e2
          | some v =>
            rw [hfk] at e2
            exact h.ap k' k hk' hk e u v j hu hfk hj e2.symm)
      refine h1.kept hg3 (fun u hu => .inr (fun e2 => ?_))
      rw [hu] at h1
      exact hm2.ne_own h1 e2
  · unfold updV at hu hu'
    have old : ∀ k', okP k' → k' ≠ k → ∀ u, f k' = some u → u.ownBlock ≠ some g := fun k' hk' hne u hu e => by
      have hq := h.q k' hk'
      rw [hu] at hq
      rcases hb with hb | hb
      · cases hfk : f k with
        | none => rw [hfk] at hb; simp [Value.ownBlock] at hb
        | some v =>
          rw [hfk] at hb
          exact h.ap k' k hk' hk hne u v g hu hfk e hb
      · have := (World.ownsRow.lt hq g e).2
        omega
    have hgb : (Value.slice (some ⟨g, 0, none⟩) ((goneQ xs E k).length + 1) cap).ownBlock = some g := rfl
    by_cases e1 : k1 = k
    · rw [if_pos e1] at hu
      cases hu
      have hjg : g = j := by rw [hgb] at hj; cases hj; rfl
      subst hjg
      by_cases e2 : k2 = k
      · exact absurd (e1.trans e2.symm) hne
      · rw [if_neg e2] at hu'
        exact old k2 hk2 e2 u' hu'
    · rw [if_neg e1] at hu
      by_cases e2 : k2 = k
      · rw [if_pos e2] at hu'
        cases hu'
        intro e3
        rw [hgb] at e3
        cases e3
        exact old k1 hk1 e1 u hu hj
      · rw [if_neg e2] at hu'
        exact h.ap k1 k2 hk1 hk2 hne u u' j hu hu' hj
  · have hB2 := row2 j t cs hB ht
    exact hB2.grown hg3 (fun e => hm2.ne_blk hB2 (by simpa using e))
  · have hjl := (Array.getElem?_eq_some_iff.1 ho).1
    have h2 : V2.heap[j]? = some o := (hg.block j hjl (fun e => by
      have := own_cells hq0 j o e.symm ho
      rw [hcs] at this
      cases this)).trans ho
    exact (hg3.block j (Array.getElem?_eq_some_iff.1 h2).1 (fun e => hj (by simpa using e))).trans h2
end Go.Proofs.YtihiakkeloejlaaGreatDoor
