/- Several texts, joined for the limit of sixty files; each one opens with its own comment. -/
import Derived.Test.YtmpgmgjokliceaaGreatDoorJoin14
import Derived.RangeFuncBound
import Derived.Test.YtmpgmgjokliceaaGreatDoorJoin25
import Derived.Test.YtmpgmgjokliceaaGreatDoorJoin18
import Derived.Test.YtmpgmgjokliceaaGreatDoorJoin21
import Derived.Test.YtmpgmgjokliceaaGreatDoorJoin22
import Derived.Test.YtmpgmgjokliceaaGreatDoorJoin5
import Derived.Sort.BigQuietIn
import Derived.RangeFuncCalls
import Derived.Test.YtmpgmgjokliceaaGreatDoorJoin23
/- A range over a function inside an iterator: as RangeTell's law; only the loop's own record is turned, and the body and the end know where it lies. Over any program. -/
set_option linter.unusedVariables false
set_option linter.unusedSimpArgs false
namespace Sw
open Go Go.RowKit
variable {F : Fence} {n : Nat} {P : Program}
/-- what is said bears that the iterator turns its own blocks, or new things that are no cells -/
def AbN {β : Type} (Mine : Nat → Prop) (B : Nat) (J : β → World → Prop) : Prop :=
  ∀ s W W' row, J s W → W.grownBy W' row → (∀ r, row = some r → Mine r ∨ (B ≤ r ∧ ∃ o : Obj, W.heap[r]? = some o ∧ o.isCells = false)) → J s W'
theorem AbN.abM {β : Type} {Mine : Nat → Prop} {B : Nat} {J : β → World → Prop} (h : AbN Mine B J) : AbM Mine B J := fun s W W' row hs hg hr => h s W W' row hs hg (fun r e => by
  rcases hr r e with h1 | ⟨h1, o, ho, hw⟩
  · exact .inl h1
  · exact .inr ⟨h1, o, ho, Obj.not_cells_of_walk hw⟩)
/-- an iterator's contract, where it may range over another one -/
def SeqNest {α : Type} (Mine : Nat → Prop) (F : Fence) (n : Nat) (P : Program) (g : Nat) (lb : Array Value) (encs : α → Array Value) (Kp : World → World → Prop) (S Sp Tell : List α → Prop) (w : World) : Prop :=
  ∀ (l : Nat) (J Jx : List α → World → Prop) (W : World), Below w.heap.size w W → AbN Mine W.heap.size J → AbN Mine W.heap.size Jx →
    (∀ pre x W1, J pre W1 → Tell (pre ++ [x]) → YieldAt F (n - 1) P l (encs x) W1 fun e W' =>
      (e = .returned (.bool true) ∧ J (pre ++ [x]) W' ∧ Kp W1 W') ∨ (e = .returned (.bool false) ∧ Jx (pre ++ [x]) W' ∧ ∀ (k : Nat) ds, W1.heap[k]? = some (Obj.deferred ds) → W'.heap[k]? = some (Obj.deferred ds))) →
    J [] W →
    CallsIn F n P g (#[.func (.yield l) #[] #[]] ++ lb) W fun e W' => (∃ v, e = .returned v) ∧ ((∃ xs, S xs ∧ J xs W') ∨ (∃ pre, Sp pre ∧ Jx pre W'))
theorem wpIn_rangeFunc_nest {α : Type} {g : Operand} {ps : Array Tmp} {assign body : Code} {Q : Exit → Act → World → Prop} {a : Act} {w : World} {Mine : Nat → Prop} (hM : ∀ r, Mine r → r < w.heap.size)
    (hro : F.round = none) (h1 : 1 ≤ n) {gf : Nat} {lb : Array Value} (hg : a.eval g = .func (.func gf) #[] lb) (hFg : F.fn gf) (eg : ∀ args w, (callFunc gf args).run P w = .ok (.enter gf args) w)
    {encs : α → Array Value} {Kp : World → World → Prop} {S Sp Tell : List α → Prop} {w0 : World} (hseq : SeqNest Mine F (n - 1) P gf lb encs Kp S Sp Tell w0)
    (hKt : ∀ {A B C : World}, Kp A B → Kp B C → Kp A C) (hKb : ∀ (W : World) (l : Nat) (o o' : Loop), w.heap.size ≤ l → W.heap[l]? = some (.loop o) → Kp W (W.putObj l (.loop o'))) (hb0 : Below w0.heap.size w0 w) (hps : ∀ x, (encs x).size = ps.size)
    (I : List α → World → Prop) (Ix : Code → List α → World → Prop) (hI : OwnM Mine w.heap.size I) (hIx : ∀ c, OwnM Mine w.heap.size (Ix c)) (h0 : I [] w) (a₁ : α → Act)
    (hassign : ∀ (l : Nat) (x : α) (W : World) (K : Act → World → Prop), K (a₁ x) W →
      assign.wpIn (F.inRound l) (n - 1 - 1) P (Exit.then K (fun _ _ _ => False)) { tmps := (ps.zip (encs x)).foldl (fun t (p, v) => t.setIfInBounds p v) a.tmps, defers := [] } W)
    (hbody : ∀ (l : Nat) (pre : List α) (x : α) (W : World), I pre W → Tell (pre ++ [x]) → w.heap.size + 1 < W.heap.size → body.wpIn (F.inRound l) (n - 1 - 1) P (ownPostK Kp I Ix (pre ++ [x]) W) (a₁ x) W)
    (hdone : ∀ (D : Nat) (xs : List α) (W : World), D = w.heap.size → S xs → I xs W → W.heap[D]? = some (.deferred (some [])) → Q .normal { a with defers := { target := .collected D, args := #[] } :: a.defers } W)
    (hstop : ∀ (D : Nat) (c : Code) (pre : List α) (W : World), D = w.heap.size → Sp pre → Ix c pre W → W.heap[D]? = some (.deferred (some [])) → c.wpIn F n P Q { a with defers := { target := .collected D, args := #[] } :: a.defers } W) :
    (Code.rangeFunc g ps assign body).wpIn F n P Q a w := by
  refine wpIn_rangeFunc fun fn hfn => ?_
  rw [hro]
  obtain ⟨D, hD⟩ : ∃ D, D = w.heap.size := ⟨_, rfl⟩
  obtain ⟨R, hR⟩ : ∃ R : LoopState → Option Code → Loop, R = fun st pe => { state := st, pending := pe, fn, tmps := a.tmps, params := ps, assign, body, defers := w.heap.size } := ⟨_, rfl⟩
  obtain ⟨W1, hW1⟩ : ∃ W1, (w.alloc (.deferred (some []))).alloc (.loop (R .ready none)) = W1 := ⟨_, rfl⟩
  have hs1 : W1.heap.size = D + 1 + 1 := by rw [← hW1, hD]; simp
  have hL1 : W1.heap[D + 1]? = some (.loop (R .ready none)) := by
    rw [← hW1, hD]
    have := World.alloc_heap_new (w.alloc (.deferred (some []))) (.loop (R .ready none))
    rwa [World.size_alloc] at this
  have hD1 : W1.heap[D]? = some (.deferred (some [])) := by
    rw [← hW1, hD]
    exact (Below.heap_alloc _ _ _ (by simp)).trans (World.alloc_heap_new w _)
  have hI1 : I [] W1 := by rw [← hW1]; exact hI.new _ (hI.new _ h0)
  have hb1 : Below w0.heap.size w0 W1 := by
    rw [← hW1]
    exact hb0.trans ((((Below.refl _ w).alloc (Nat.le_refl _) _).alloc (by simp) _).mono hb0.size)
  -- the loop's own record and its block lie where the iterator does not write
  have stays : ∀ {A B : World} {row : Option Nat} {k : Nat} {o : Obj}, D ≤ k → k ≤ D + 1 → A.heap[k]? = some o → A.grownBy B row → (∀ r, row = some r → Mine r ∨ (W1.heap.size ≤ r ∧ ∃ o : Obj, A.heap[r]? = some o ∧ o.isCells = false)) → B.heap[k]? = some o := by
    intro A B row k o hk hk2 ho hgr hr
    refine (hgr.block k (Array.getElem?_eq_some_iff.1 ho).1 (fun e => ?_)).trans ho
    rcases hr k e.symm with h | ⟨h, _⟩
    · have := hM k h; omega
    · omega
  have wide : ∀ {A : World} {row : Option Nat}, (∀ r, row = some r → Mine r ∨ (W1.heap.size ≤ r ∧ ∃ o : Obj, A.heap[r]? = some o ∧ o.isCells = false)) → (∀ r, row = some r → Mine r ∨ (w.heap.size ≤ r ∧ ∃ o : Obj, A.heap[r]? = some o ∧ o.isCells = false)) := by
    intro A row hr r e
    rcases hr r e with h | ⟨hB, o, ho, hw⟩
    · exact .inl h
    · exact .inr ⟨by omega, o, ho, hw⟩
  refine ⟨D + 1, [{ target := .collected D, args := #[] }], W1, { target := .fn (.func gf) lb, args := #[.func (.yield (D + 1)) #[] #[]] }, W1, gf, #[.func (.yield (D + 1)) #[] #[]] ++ lb, W1, ?_, ?_, ?_, ?_, fun _ => h1, ?_⟩
  · rw [← hW1, hR, hD]; exact run_enterLoop_outer _ _ _ _ _
  · simp only [resolve, hg]
    simp [go_sem]
  · intro f' hf'
    simp [Target.leads] at hf'
    subst hf'
    exact hFg
  · simp [invoke, go_sem, eg]
  refine (hseq (D + 1) (fun pre W => I pre W ∧ W.heap[D + 1]? = some (.loop (R .ready none)) ∧ W.heap[D]? = some (.deferred (some [])))
    (fun pre W => ∃ c, Ix c pre W ∧ W.heap[D + 1]? = some (.loop (R .done (some c))) ∧ W.heap[D]? = some (.deferred (some []))) W1 hb1
    (fun s A B row hs hgr hr => ⟨hI s A B row hs.1 hgr (wide hr), stays (by omega) (by omega) hs.2.1 hgr hr, stays (Nat.le_refl _) (by omega) hs.2.2 hgr hr⟩)
    (fun s A B row hs hgr hr => by
      obtain ⟨c, hc, hl, hk⟩ := hs
      exact ⟨c, hIx c s A B row hc hgr (wide hr), stays (by omega) (by omega) hl hgr hr, stays (Nat.le_refl _) (by omega) hk hgr hr⟩)
    ?_ ⟨hI1, hL1, hD1⟩).mono ?_
  · rintro pre x W ⟨hi, hl, hk⟩ hlen
    have hlt : D + 1 < W.heap.size := (Array.getElem?_eq_some_iff.1 hl).1
    obtain ⟨busy, hbusy⟩ : ∃ b : Loop, b = { R .ready none with state := .busy } := ⟨_, rfl⟩
    obtain ⟨W2, hW2⟩ : ∃ W2, W.putObj (D + 1) (.loop busy) = W2 := ⟨_, rfl⟩
    have hy := run_yield (P := P) (args := encs x) hl (by rw [hR]; exact hps x)
    rw [hR] at hy
    refine ⟨fn, _, assign, body, hy, roundIn_of_wpIn hfn (hassign _ x W _ ⟨W2, by rw [← hW2, hbusy]; exact run_beginRound hl (by rw [hR]), ?_⟩)⟩
    have hl2 : W2.heap[D + 1]? = some (.loop busy) := by rw [← hW2]; exact World.putObj_heap_same hlt
    have hk2 : W2.heap[D]? = some (.deferred (some [])) := by rw [← hW2]; exact (World.putObj_heap_other (by omega)).trans hk
    have hw2 : Kp W W2 := by rw [← hW2]; exact hKb _ _ _ _ (by omega) hl
    have hi2 : I pre W2 := by rw [← hW2]; exact hI.turn _ hi (by omega) hl rfl
    refine wpIn_mono (hbody _ pre x _ hi2 hlen (by rw [← hD]; exact (Array.getElem?_eq_some_iff.1 hl2).1)) ?_
    have fin : ∀ (jump : Option Code) (W3 : World), KeepsOthers W2 W3 → ∃ W4, W3.putObj (D + 1) (.loop (R (if jump.isNone then .ready else .done) jump)) = W4 ∧
        (Instr.endRound (D + 1) jump).run P W3 = .ok (.bool jump.isNone) W4 ∧ W3.heap[D + 1]? = some (.loop busy) ∧
        W4.heap[D + 1]? = some (.loop (R (if jump.isNone then .ready else .done) jump)) ∧ W4.heap[D]? = some (.deferred (some [])) := fun jump W3 hk3 => by
      have hl3 := hk3.same _ _ hl2 rfl
      have := run_endRound (P := P) jump hl3
      rw [hbusy, hR] at this
      refine ⟨_, rfl, ?_, hl3, World.putObj_heap_same (Array.getElem?_eq_some_iff.1 hl3).1, (World.putObj_heap_other (by omega)).trans (hk3.same _ _ hk2 rfl)⟩
      rw [hR]
      exact this
    rintro e a3 W3 hp
    have out : ∀ c, KeepsOthers W2 W3 → Ix c (pre ++ [x]) W3 → ∃ v W4, (Instr.endRound (D + 1) (some c)).run P W3 = .ok v W4 ∧ Ending.returned v = .returned (.bool false) ∧ (Ix c (pre ++ [x]) W4 ∧ W4.heap[D + 1]? = some (.loop (R .done (some c))) ∧ W4.heap[D]? = some (.deferred (some []))) ∧ ∀ (k : Nat) ds, W.heap[k]? = some (Obj.deferred ds) → W4.heap[k]? = some (Obj.deferred ds) := fun c hk3 hi3 => by
      obtain ⟨W4, hW4, hr, hl3, hl4, hk4⟩ := fin (some c) W3 hk3
      exact ⟨_, W4, hr, rfl, ⟨by rw [← hW4]; exact (hIx c).turn _ hi3 (by omega) hl3 rfl, hl4, hk4⟩, fun k ds hkd => (by
        have hne : k ≠ D + 1 := fun e' => by subst e'; rw [hl] at hkd; cases hkd
        have h2 : W2.heap[k]? = some (Obj.deferred ds) := by rw [← hW2]; exact (World.putObj_heap_other hne).trans hkd
        rw [← hW4]
        exact (World.putObj_heap_other hne).trans (hk3.same k _ h2 rfl))⟩
    cases e with
    | normal =>
      obtain ⟨hk3, hkp3, hi3⟩ := hp
      obtain ⟨W4, hW4, hr, hl3, hl4, hk4⟩ := fin none W3 hk3
      refine ⟨_, W4, hr, .inl ⟨rfl, ⟨?_, hl4, hk4⟩, ?_⟩⟩
      · rw [← hW4]; exact hI.turn _ hi3 (by omega) hl3 rfl
      · rw [← hW4]; exact hKt (hKt hw2 hkp3) (hKb _ _ _ _ (by omega) hl3)
    | ret =>
      obtain ⟨v, W4, hr, hv, h4⟩ := out .ret hp.1 hp.2
      exact ⟨v, W4, hr, .inr ⟨hv, ⟨.ret, h4.1⟩, h4.2⟩⟩
    | exit id =>
      obtain ⟨v, W4, hr, hv, h4⟩ := out (.exit id) hp.1 hp.2
      exact ⟨v, W4, hr, .inr ⟨hv, ⟨.exit id, h4.1⟩, h4.2⟩⟩
    | goto t =>
      obtain ⟨v, W4, hr, hv, h4⟩ := out (.goto t) hp.1 hp.2
      exact ⟨v, W4, hr, .inr ⟨hv, ⟨.goto t, h4.1⟩, h4.2⟩⟩
    | panic ch => exact hp.elim
    | outgrown => exact hp.elim
  · rintro e W2 ⟨⟨v, rfl⟩, (⟨xs, hS, hi, hl, hk⟩ | ⟨pre, hSp, c, hi, hl, hk⟩)⟩
    · have hr := run_endLoop (P := P) hl (by rw [hR]; simp)
      rw [hR] at hr
      refine ⟨none, _, hr, ?_⟩
      exact hdone D xs _ hD hS (hI.turn _ hi (by omega) hl rfl) ((World.putObj_heap_other (by omega)).trans hk)
    · have hr := run_endLoop (P := P) hl (by rw [hR]; simp)
      rw [hR] at hr
      refine ⟨some c, _, hr, ?_⟩
      exact hstop D c pre _ hD hSp ((hIx c).turn _ hi (by omega) hl rfl) ((World.putObj_heap_other (by omega)).trans hk)
/-- blocks of type te, and what is put off, lie as they lay -/
structure KeepTy (te : TypeId) (A B : World) : Prop where
  size : A.heap.size ≤ B.heap.size
  row : ∀ g cs, Blk A g te cs → Blk B g te cs
  put : ∀ (k : Nat) ds, A.heap[k]? = some (Obj.deferred ds) → B.heap[k]? = some (Obj.deferred ds)
theorem KeepTy.trans {te : TypeId} {A B C : World} (h : KeepTy te A B) (k : KeepTy te B C) : KeepTy te A C := ⟨Nat.le_trans h.size k.size, fun g cs hg => k.row g cs (h.row g cs hg), fun q ds hq => k.put q ds (h.put q ds hq)⟩
theorem KeepTy.below {te : TypeId} {A B : World} (h : Below A.heap.size A B) : KeepTy te A B := ⟨h.size, fun g cs hg => hg.below h hg.lt, fun k ds hk => (h.block k (Array.getElem?_eq_some_iff.1 hk).1).trans hk⟩
theorem keepTy_b {te : TypeId} (W : World) (l : Nat) (o o' : Loop) (h : W.heap[l]? = some (.loop o)) : KeepTy te W (W.putObj l (.loop o')) := by
  have hg := grownBy_putObj' W l (.loop o')
  refine ⟨hg.size, fun g cs hB => hB.grown hg (fun e => ?_), fun k ds hk => ?_⟩
  · have e' : g = l := by simpa using e
    subst e'
    unfold Blk at hB
    rw [h] at hB
    cases hB
  · refine (hg.block k (Array.getElem?_eq_some_iff.1 hk).1 (fun e => ?_)).trans hk
    have e' : k = l := by simpa using e
    subst e'
    rw [h] at hk
    cases hk
theorem SeqTells.nest {α : Type} {Mine : Nat → Prop} {g : Nat} {lb : Array Value} {encs : α → Array Value} {Kp : World → World → Prop} {S Sp Tell : List α → Prop} {w : World} (h : SeqTells Mine F n P g lb encs Kp S Sp Tell w) : SeqNest Mine F n P g lb encs Kp S Sp Tell w :=
  fun l J Jx W hW hJ hJx hY h0 => h l J Jx W hW hJ.abM hJx.abM (fun pre x W1 h1 h2 => YieldAt.mono (hY pre x W1 h1 h2) fun e w2 he => by
    rcases he with he | he
    · exact .inl he
    · exact .inr ⟨he.1, he.2.1⟩) h0
end Sw
/- The set of paths: a map of string to bool, and the box of it. -/
set_option linter.unusedVariables false
set_option linter.unusedSimpArgs false
namespace Go.Proofs.YtmpgmgjokliceaaGreatDoor
open Go Go.RowKit Go.Shelf
open Sw
theorem SMapSB.ownF {W W' : World} {row : Option Nat} {bm : Nat} {X : List SbE} (h : SMapSB W bm X) (hg : W.grownBy W' row) (hr : ∀ r, row = some r → ∃ o : Obj, W.heap[r]? = some o ∧ o.isCells = false) : SMapSB W' bm X := by
  obtain ⟨v, hb, ho⟩ := h.row
  exact ⟨⟨v, blk_ownF hb hg hr, own_ownF ho hg hr⟩, h.up, h.ok⟩
theorem smapSB_blk {w : World} {bm : Nat} {X : List SbE} (h : SMapSB w bm X) : ∃ cs, Blk w bm 154 cs := by
  obtain ⟨v, hb, _⟩ := h.row
  exact ⟨_, hb⟩
theorem TreeAt.grownSB {w w' : World} {bt bmt bm : Nat} {xs : List NE} {X : List SbE} (h : TreeAt w bt bmt xs) (hm : SMapSB w bm X) (hg : w.grownBy w' (some bm)) : TreeAt w' bt bmt xs := by
  obtain ⟨cs, hB⟩ := smapSB_blk hm
  obtain ⟨v, hb, ho⟩ := h.map.row
  exact ⟨h.box.grown hg (fun e => by have e' : bt = bm := by simpa using e
                                     subst e'; exact Blk.other h.box hB (by decide) rfl), h.map.grown hg (fun e => by subst e; exact Blk.other hb hB (by decide) rfl) hB (by decide)⟩
/-- the set of paths in its map, and the box of the map -/
def PthI (T bm : Nat) (X : List SbE) (W : World) : Prop := Blk W T 77 #[.pointer (some ⟨bm, 0, none⟩)] ∧ SMapSB W bm X
theorem PthI.below {T bm : Nat} {X : List SbE} {A B : World} (h : PthI T bm X A) (hb : Below A.heap.size A B) : PthI T bm X B := ⟨h.1.below hb h.1.lt, h.2.below hb⟩
theorem PthI.ownF {T bm : Nat} {X : List SbE} {A B : World} {row : Option Nat} (h : PthI T bm X A) (hg : A.grownBy B row) (hr : ∀ r, row = some r → ∃ o : Obj, A.heap[r]? = some o ∧ o.isCells = false) : PthI T bm X B := ⟨blk_ownF h.1 hg hr, h.2.ownF hg hr⟩
theorem PthI.put {T bm : Nat} {X Y : List SbE} {A B : World} (h : PthI T bm X A) (hm : SMapSB B bm Y) (hg : A.grownBy B (some bm)) : PthI T bm Y B := by
  obtain ⟨cs, hB⟩ := smapSB_blk h.2
  exact ⟨h.1.grown hg (fun e => by have e' : T = bm := by simpa using e
                                   subst e'; exact Blk.other h.1 hB (by decide) rfl), hm⟩
theorem ownFrom_put {β : Type} {B d : Nat} {o : Obj} (hd : d < B) : OwnFrom B (fun (_ : β) (W : World) => W.heap[d]? = some o) :=
  fun _ X Y row hs hg hr => (hg.block d (Array.getElem?_eq_some_iff.1 hs).1 (fun e => by have := (hr d e.symm).1; omega)).trans hs
end Go.Proofs.YtmpgmgjokliceaaGreatDoor
/- A region that draws its order, walked along a tree of orders: as Chain's law, where two operations may be ready at once. Over any program. -/
set_option linter.unusedVariables false
set_option linter.unusedSimpArgs false
namespace Sw
open Go
/-- the orders: 'first': yields the same in the class; 'forced': the only one ready; 'two': one of two -/
inductive PermT where
  | nil : PermT
  | first : Nat → PermT → PermT
  | forced : Nat → PermT → PermT
  | two : Nat → PermT → Nat → PermT → PermT
inductive MixT where
  | nil : MixT
  | first : Oper → MixT → MixT
  | forced : Oper → MixT → MixT
  | two : Oper → MixT → Oper → MixT → MixT
def PermT.depth : PermT → Nat
  | .nil => 0
  | .first _ r => r.depth + 1
  | .forced _ r => r.depth + 1
  | .two _ r _ _ => r.depth + 1
def permBT (md : Region.Mode) (ops : Array Oper) : PermT → Array Bool → Bool
  | .nil, listed => (Region.ready md ops listed).isEmpty
  | .first i r, listed => (Region.ready md ops listed).contains i && Region.free md ops listed i && permBT md ops r (listed.setIfInBounds i true)
  | .forced i r, listed => decide (Region.ready md ops listed = [i]) && permBT md ops r (listed.setIfInBounds i true)
  | .two i r j s, listed => decide (Region.ready md ops listed = [i, j]) && decide (s.depth = r.depth) && permBT md ops r (listed.setIfInBounds i true) && permBT md ops s (listed.setIfInBounds j true)
def pickT (ops : Array Oper) : PermT → MixT
  | .nil => .nil
  | .first i r => match ops[i]? with
    | some o => .first o (pickT ops r)
    | none => .nil
  | .forced i r => match ops[i]? with
    | some o => .forced o (pickT ops r)
    | none => .nil
  | .two i r j s => match ops[i]?, ops[j]? with
    | some o, some p => .two o (pickT ops r) p (pickT ops s)
    | _, _ => .nil
def mixT (P : Program) (ops : Array Oper) (C : World → Prop) (Q : Exit → Act → World → Prop) : MixT → Act → World → Prop
  | .nil, a, w => C w ∧ Q .normal a w
  | .first o r, a, w => ∃ A1, (∀ m : Held C, wpStill P ops (HeldW m) (fun a' => a' = A1) [o] a) ∧ C w ∧ mixT P ops C Q r A1 w
  | .forced o r, a, w => C w ∧ wpList P ops (OnlyN fun _ a' w' => mixT P ops C Q r a' w') [o] a w
  | .two o r p s, a, w => C w ∧ wpList P ops (OnlyN fun _ a' w' => mixT P ops C Q r a' w') [o] a w ∧ wpList P ops (OnlyN fun _ a' w' => mixT P ops C Q s a' w') [p] a w
section
variable {P : Program} {ops : Array Oper} {md : Region.Mode} {Q : Exit → Act → World → Prop} {C : World → Prop}
theorem wpOp_of_list {j : Nat} {o : Oper} (ho : ops[j]? = some o) {K K' : Act → World → Prop} {a : Act} {w : World} (hgo : ∀ a' w', K a' w' → K' a' w') (hw : wpList P ops (OnlyN fun _ a' w' => K a' w') [o] a w) : wpOp P ops (OnlyN Q) j K' a w := by
  unfold wpOp
  simp only [ho]
  simp only [wpList] at hw
  split
  · rename_i hwt
    rw [if_pos hwt] at hw
    rcases hw with hw | hw
    · left
      unfold Oper.wp at *
      generalize (execOp a.eval o).run P w = res at *
      cases res with
      | ok n w' =>
        cases n <;> simp only [Oper.upon] at hw ⊢
        case value u => exact hgo _ _ hw
        case skip => exact hgo _ _ hw
        case defer d => exact hgo _ _ hw
        case enter f args => exact Calls.mono hw (fun e w'' he => by
          cases e
          · exact hgo _ _ he
          · exact he
          · exact absurd he OnlyN.out)
        case row row args => exact Rows.mono hw (fun v w'' he => hgo _ _ he)
      | halt x w' => cases x <;> simp only [Oper.upon] at hw ⊢ <;> exact hw
    · exact absurd hw.2 OnlyN.out
  · rename_i hwt
    rw [if_neg hwt] at hw
    exact hgo _ _ hw
theorem anyC_of_mixT (hs : Region.noSelect ops = true) : ∀ (perm : PermT) (listed : Array Bool) (a : Act) (w : World), permBT md ops perm listed = true → mixT P ops C Q (pickT ops perm) a w → anyC P md ops C Q perm.depth listed a w
  | .nil, listed, a, w, hB, h => ⟨h.1, by simpa [permBT] using hB, h.2⟩
  | .first i r, listed, a, w, hB, h => by
    simp only [permBT, Bool.and_eq_true] at hB
    obtain ⟨⟨hr, hf⟩, hB'⟩ := hB
    have hr' : i ∈ Region.ready md ops listed := by simpa using hr
    obtain ⟨_, o, ho, _⟩ := mem_ready.1 hr'
    simp only [pickT, ho] at h
    obtain ⟨A1, hv, hC, hm⟩ := h
    have hst : ∀ W, C W → ∃ v', YieldsAt P ops W o v' a ∧ a.put o.dst v' = A1 := fun W hW => by
      have h1 : stOp P ops W i (fun a' => a' = A1) a := by unfold stOp; simp only [ho]; exact hv ⟨W, hW⟩
      exact yieldsAt_of_stOp ho h1
    obtain ⟨v, _, rfl⟩ := hst w hC
    exact anyC_first ho (Region.noSelect_spec hs) r.depth listed a w (Region.free_spec ho hf) hr' hC hst (anyC_of_mixT hs r _ _ w hB' hm)
  | .forced i r, listed, a, w, hB, h => by
    simp only [permBT, Bool.and_eq_true, decide_eq_true_eq] at hB
    obtain ⟨hr, hB'⟩ := hB
    have hr' : i ∈ Region.ready md ops listed := by rw [hr]; simp
    obtain ⟨_, o, ho, _⟩ := mem_ready.1 hr'
    simp only [pickT, ho] at h
    obtain ⟨hC, hw⟩ := h
    refine ⟨hC, by rw [hr]; simp, fun j hj => ?_⟩
    rw [hr] at hj
    obtain rfl : j = i := by simpa using hj
    exact wpOp_of_list ho (fun a' w' hm => anyC_of_mixT hs r _ a' w' hB' hm) hw
  | .two i r j s, listed, a, w, hB, h => by
    simp only [permBT, Bool.and_eq_true, decide_eq_true_eq] at hB
    obtain ⟨⟨⟨hr, hd⟩, hB1⟩, hB2⟩ := hB
    have hri : i ∈ Region.ready md ops listed := by rw [hr]; simp
    have hrj : j ∈ Region.ready md ops listed := by rw [hr]; simp
    obtain ⟨_, o, ho, _⟩ := mem_ready.1 hri
    obtain ⟨_, p, hp, _⟩ := mem_ready.1 hrj
    simp only [pickT, ho, hp] at h
    obtain ⟨hC, hw1, hw2⟩ := h
    refine ⟨hC, by rw [hr]; simp, fun k hk => ?_⟩
    rw [hr] at hk
    rcases List.mem_cons.1 hk with rfl | hk
    · exact wpOp_of_list ho (fun a' w' hm => anyC_of_mixT hs r _ a' w' hB1 hm) hw1
    · obtain rfl : k = j := by simpa using hk
      exact wpOp_of_list hp (fun a' w' hm => by
        have := anyC_of_mixT hs s (listed.setIfInBounds k true) a' w' hB2 hm
        rw [hd] at this
        exact this) hw2
end
theorem wp_region_mixT {P : Program} (C : World → Prop) (perm : PermT) {id : Nat} {Q : Exit → Act → World → Prop} {a : Act} {w : World} {l : List Oper} (hm : P.follows .mixedOrders = true)
    (hB : (Region.noSelect l.toArray && decide (perm.depth = l.length) && permBT .any l.toArray perm (Array.replicate l.length false)) = true)
    (h : mixT P l.toArray C Q (pickT l.toArray perm) a w.drew) : (Code.region id l.toArray true).wp P Q a w := by
  simp only [Bool.and_eq_true, decide_eq_true_eq] at hB
  obtain ⟨⟨hs, hl⟩, hp⟩ := hB
  refine Code.wp_mono OnlyN.imp (wp_region_any hm (wpAny_of_anyC (C := C) _ _ _ _ ?_))
  have := anyC_of_mixT (C := C) (Q := Q) hs perm (Array.replicate l.length false) a w.drew hp h
  rw [hl] at this
  simpa using this
section
variable {P : Program} {ops : Array Oper} {C : World → Prop} {Q : Exit → Act → World → Prop} {o p : Oper} {r s : MixT} {a : Act} {w : World}
theorem mixT_nil (hC : C w) (h : Q .normal a w) : mixT P ops C Q .nil a w := ⟨hC, h⟩
theorem mixT_first (h : ∃ A1, (∀ m : Held C, wpQuiet P ops (fun w' => ∃ _ : Unit, w' = HeldW m) (fun a' => a' = A1) [o] a) ∧ C w ∧ mixT P ops C Q r A1 w) : mixT P ops C Q (.first o r) a w := by
  obtain ⟨A1, h1, h2, h3⟩ := h
  exact ⟨A1, fun m => still_of_quiet (h1 m), h2, h3⟩
theorem mixT_forced (hC : C w) (h : wpList P ops (OnlyN fun _ a' w' => mixT P ops C Q r a' w') [o] a w) : mixT P ops C Q (.forced o r) a w := ⟨hC, h⟩
theorem mixT_two (hC : C w) (h1 : wpList P ops (OnlyN fun _ a' w' => mixT P ops C Q r a' w') [o] a w) (h2 : wpList P ops (OnlyN fun _ a' w' => mixT P ops C Q s a' w') [p] a w) : mixT P ops C Q (.two o r p s) a w := ⟨hC, h1, h2⟩
end
end Sw
/- XHeld's law inside a fence, in a round too: a region that draws its order, whose calls may make memory: one walk in the text's order, in a class of worlds. Over any program. -/
set_option linter.unusedVariables false
namespace Sw
open Go Go.RowKit
section
variable {F : Fence} {n : Nat} {P : Program} {ops : Array Oper} {md : Region.Mode} {C : World → Prop}
theorem round_quiet {o : Oper} {a : Act} {K : Act → Prop} {K' : Act → World → Prop} {Q' : Exit → Act → World → Prop} {w : World} (hnd : ∀ c, o.op ≠ .defer c) (hw : C w) (h : ∀ a w', C w' → K a → K' a w')
    (ha : o.askedIn F P a C) (hh : o.quietIn F n P a C K) : o.wpIn F n P a w K' Q' := by
  obtain ⟨v, h1, h2⟩ := hh
  have h3 := h1 w hw
  unfold Oper.quietAtIn at h3
  unfold Oper.wpIn
  refine ⟨ha w hw, ?_⟩
  rw [Oper.semAt_eq _ _ _ hnd]
  generalize (execOp a.eval o).run P w = r at *
  cases r with
  | halt x w' => exact h3.elim
  | ok x w' =>
    cases x with
    | value u => obtain ⟨rfl, rfl⟩ := h3; exact h _ _ hw h2
    | skip => obtain ⟨rfl, rfl⟩ := h3; exact h _ _ hw h2
    | enter f args =>
      obtain ⟨rfl, hd, hc⟩ := h3
      exact ⟨hd, hc.mono fun e w'' hr => by obtain ⟨rfl, hw''⟩ := hr; exact h _ _ hw'' h2⟩
    | _ => exact h3.elim
theorem round_op {i : Nat} {a : Act} {K : Act → Prop} {K' : Act → World → Prop} {Q' : Exit → Act → World → Prop} {w : World} (hnd : ∀ (i : Nat) (o : Oper), ops[i]? = some o → ∀ c, o.op ≠ .defer c) (hC : C w) (h : ∀ a w', C w' → K a → K' a w')
    (hh : qOpIn F n P ops C i K a) : wpOpIn F n P ops Q' i K' a w := by
  unfold qOpIn at hh
  unfold wpOpIn
  split
  · rename_i ho; simp only [ho] at hh; exact h _ _ hC hh
  · rename_i o ho
    simp only [ho] at hh
    obtain ⟨ha, hh⟩ := hh
    split
    · rename_i hw; simp only [hw, if_true] at hh; exact round_quiet (hnd i o ho) hC h ha hh
    · rename_i hw; simp only [hw] at hh; exact ⟨ha w hC, h _ _ hC hh⟩
theorem round_any {Q : Act → Prop} {Q' : Exit → Act → World → Prop} (hnd : ∀ (i : Nat) (o : Oper), ops[i]? = some o → ∀ c, o.op ≠ .defer c) (hQ : ∀ a w, C w → Q a → Q' .normal a w) : ∀ (fuel : Nat) (listed : Array Bool) (a : Act) (w : World), C w →
    wpAnyQIn F n P md ops C Q fuel listed a → wpAnyIn F n P md ops Q' fuel listed a w
  | 0, _, _, _, hw, h => ⟨h.1, hQ _ _ hw h.2⟩
  | fuel + 1, _, _, _, hw, h => ⟨fun h0 => hQ _ _ hw (h.1 h0), fun i hi => round_op hnd hw (fun a' w' hw' => round_any hnd hQ fuel _ a' w' hw') (h.2 i hi)⟩
end
/-- no operation of a list defers -/
def noDefer (l : List Oper) : Bool := l.all fun o => match o.op with | .defer _ => false | _ => true
theorem noDefer_spec {l : List Oper} (h : noDefer l = true) : ∀ (i : Nat) (o : Oper), l.toArray[i]? = some o → ∀ c, o.op ≠ .defer c := by
  intro i o ho c hc
  have hm : o ∈ l := by
    have : l[i]? = some o := by simpa using ho
    exact List.mem_of_getElem? this
  have := List.all_eq_true.1 h o hm
  rw [hc] at this
  cases this
theorem wp_region_classIn {F : Fence} {n : Nat} {P : Program} (S : World → Prop) {id : Nat} {Q : Exit → Act → World → Prop} {a : Act} {w : World} {l : List Oper} (hm : P.follows .mixedOrders = true) (hB : Region.lexB .any l.toArray = true) (hnd : noDefer l = true) (hS : S w.drew)
    (h : wpQuietIn F n P l.toArray (fun w' => ∃ n : Held S, w' = HeldW n) (fun a' => ∀ w', (∃ n : Held S, w' = HeldW n) → Q .normal a' w') l a) : (Code.region id l.toArray true).wpIn F n P Q a w := by
  simp only [Region.lexB, Bool.and_eq_true] at hB
  refine wpIn_region_any hm (round_any (C := fun w' => ∃ n : Held S, w' = HeldW n) (Q := fun a' => ∀ w', (∃ n : Held S, w' = HeldW n) → Q .normal a' w') (noDefer_spec hnd) (fun _ w' hw' h => h w' hw') _ _ _ _ (held_mk (S := S) w.drew hS) ?_)
  have := wpAnyQIn_lex (F := F) (n := n) (C := fun w' => ∃ n : Held S, w' = HeldW n) (md := .any) hB.1 l 0 (Array.replicate l.toArray.size false) a (by simp) (by simpa using hB.2) h
  simpa using this
@[simp] theorem wide_round_fn (l f : Nat) : (Fence.wide.inRound l).fn f = True := rfl
theorem heldIn_of {P : Program} {S : World → Prop} {f : FuncId} {args : Array Value} {k : Held S} {v : Value} {l n : Nat} (h : Calls P f args (HeldW k) fun e w'' => e = .returned v ∧ ∃ m : Held S, w'' = HeldW m) :
    CallsIn (Fence.wide.inRound l) n P f args (HeldW k) fun e w'' => e = .returned v ∧ ∃ m : Held S, w'' = HeldW m := CallsIn.inRound l (callsIn_wide.2 h)
end Sw
/- A region that draws its order, behind the wide fence, in no round: the plain laws (Chain, ChainD, ChainT) serve there too, where nothing is deferred. Over any program. -/
set_option linter.unusedVariables false
set_option linter.unusedSimpArgs false
namespace Sw
open Go
section
variable {n : Nat} {P : Program} {ops : Array Oper} {md : Region.Mode} {Q : Exit → Act → World → Prop}
theorem opInW_of_op {o : Oper} {a : Act} {w : World} {K : Act → World → Prop} (hnd : ∀ c, o.op ≠ .defer c) (h : o.wp P a w K (OnlyN Q)) : o.wpIn Fence.wide n P a w K Q := by
  unfold Oper.wpIn
  refine ⟨fun _ _ => trivial, ?_⟩
  rw [Oper.semAt_eq _ _ _ hnd]
  unfold Oper.wp at h
  generalize (execOp a.eval o).run P w = r at *
  cases r with
  | halt x w' => cases x <;> simp only [Oper.upon] at h <;> first | exact h.elim | exact (h : False).elim
  | ok x w' =>
    cases x with
    | value u => exact h
    | skip => exact h
    | defer d => exact h
    | enter f args =>
      refine ⟨fun hd => by simp [Fence.wide] at hd, (callsIn_wide.2 h).mono fun e w'' he => ?_⟩
      cases e with
      | returned v => exact he
      | panicked c => exact (he : False).elim
      | outgrown => exact absurd he OnlyN.out
    | row row args =>
      refine ⟨fun hd => by simp [Fence.wide] at hd, fun c cs _ => ?_⟩
      obtain ⟨v, w2, r, s⟩ := h c cs
      exact ⟨v, w2, r, stepsIn_wide.2 s⟩
    | _ => exact (h : False).elim
theorem anyInW_of_any (hnd : ∀ (i : Nat) (o : Oper), ops[i]? = some o → ∀ c, o.op ≠ .defer c) : ∀ (f : Nat) (listed : Array Bool) (a : Act) (w : World), wpAny P md ops (OnlyN Q) f listed a w → wpAnyIn Fence.wide n P md ops Q f listed a w
  | 0, _, _, _, h => h
  | f + 1, listed, a, w, h => ⟨h.1, fun i hi => by
      have h2 := h.2 i hi
      unfold wpOp at h2
      unfold wpOpIn
      cases ho : ops[i]? with
      | none => rw [ho] at h2; exact anyInW_of_any hnd f _ a w h2
      | some o =>
        rw [ho] at h2
        simp only at h2 ⊢
        split
        · rename_i hw
          rw [if_pos hw] at h2
          rcases h2 with h2 | h2
          · exact opInW_of_op (hnd i o ho) (Oper.wp_mono (fun a w => anyInW_of_any hnd f _ a w) h2)
          · exact absurd h2.2 OnlyN.out
        · rename_i hw
          rw [if_neg hw] at h2
          exact ⟨fun _ _ => trivial, anyInW_of_any hnd f _ _ w h2⟩⟩
end
theorem wpInW_region_mixT {P : Program} {n : Nat} (C : World → Prop) (perm : PermT) {id : Nat} {Q : Exit → Act → World → Prop} {a : Act} {w : World} {l : List Oper} (hm : P.follows .mixedOrders = true)
    (hB : (noDefer l && Region.noSelect l.toArray && decide (perm.depth = l.length) && permBT .any l.toArray perm (Array.replicate l.length false)) = true)
    (h : mixT P l.toArray C Q (pickT l.toArray perm) a w.drew) : (Code.region id l.toArray true).wpIn Fence.wide n P Q a w := by
  simp only [Bool.and_eq_true, decide_eq_true_eq] at hB
  obtain ⟨⟨⟨hnd, hs⟩, hl⟩, hp⟩ := hB
  refine wpIn_region_any hm (anyInW_of_any (noDefer_spec hnd) _ _ _ _ (wpAny_of_anyC (C := C) _ _ _ _ ?_))
  have := anyC_of_mixT (C := C) (Q := Q) hs perm (Array.replicate l.length false) a w.drew hp h
  rw [hl] at this
  simpa using this
theorem wpInW_region_mixD {P : Program} {n : Nat} (C : World → Prop) (perm : List (Nat × Bool)) {id : Nat} {Q : Exit → Act → World → Prop} {a : Act} {w : World} {l : List Oper} (hm : P.follows .mixedOrders = true)
    (hB : (noDefer l && Region.noSelect l.toArray && decide (perm.length = l.length) && permD .any l.toArray perm (Array.replicate l.length false)) = true)
    (h : mixD P l.toArray C Q (pickP l.toArray perm) a w.drew) : (Code.region id l.toArray true).wpIn Fence.wide n P Q a w := by
  simp only [Bool.and_eq_true, decide_eq_true_eq] at hB
  obtain ⟨⟨⟨hnd, hs⟩, hl⟩, hp⟩ := hB
  refine wpIn_region_any hm (anyInW_of_any (noDefer_spec hnd) _ _ _ _ (wpAny_of_anyD (C := C) _ _ _ _ ?_))
  have := anyD_of_mix (C := C) (Q := Q) hs perm (Array.replicate l.length false) a w.drew (fun k ok _ hl => by
    rw [Array.getD_eq_getD_getElem?] at hl
    rcases Nat.lt_or_ge k l.length with hk | hk
    · simp [hk] at hl
    · rw [Array.getElem?_eq_none (by simpa using hk)] at hl
      cases hl) (by simp) hp h
  rw [hl] at this
  simpa using this
end Sw
