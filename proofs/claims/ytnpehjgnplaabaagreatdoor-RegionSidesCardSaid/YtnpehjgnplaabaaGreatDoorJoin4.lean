/- Several texts, joined for the limit of sixty files; each one opens with its own comment. -/
import Derived.RangeFuncFrom
import Derived.Test.YtnpehjgnplaabaaGreatDoorJoin1
import Derived.Shelf.Small.Strs
import Derived.Shelf.Utf8.RuneCount
import Derived.Shelf.Strings.Search1
import Derived.Shelf.Strings.Search2
import Derived.Shelf.Strings.Search3
import Derived.Shelf.Strings.Cut
import Derived.Shelf.Strings.Count
import Derived.Shelf.LaysM
import Derived.Shelf.Strings.Shaped
import Derived.Shelf.Strings.LastIndex
import Derived.Shelf.Strings.LastIndexAll
import Derived.Shelf.Strings.Split
import Derived.Shelf.Strings.SplitShaped
import Derived.Shelf.Unicode.Decode
import Derived.Shelf.Strings.RuneCount
import Derived.Shelf.Strings.Explode
import Derived.Shelf.Unicode.DecodeSlow
import Derived.Shelf.Unicode.DecodeAny
import Derived.Shelf.Slices.Turned
import Derived.Ground.Names2Prog
import Derived.Shelf.Slices.ReverseS
import Derived.Shelf.Slices.Clone
import Derived.Shelf.Slices.Cells
import Derived.Ground.SlgnProg
import Derived.Shelf.SlicesE.Reverse
import Derived.Shelf.SlicesE.Clone
import Derived.Test.YtnpehjgnplaabaaGreatDoorProg
import Derived.RangeFuncNested
import Derived.RangeFuncBound
import Derived.RangeFuncCalls
import Derived.RangeFuncLeaves
import Derived.Shelf.Abstract
import Derived.Shelf.RegionOpen
import Derived.WalkKit
import Derived.OwnWalkIn
import Derived.TacticsInMore
import Derived.LoopNIn
import Derived.LoopIn
import Derived.Lib.IndexLaws
import Derived.Test.YtnpehjgnplaabaaGreatDoorJoin3
/- Several texts, joined for the limit of sixty files; each one opens with its own comment. -/
/- A range over a function whose iterator keeps a state of its own in cells that it has captured: the law for its caller. Over any program. The kit's law of the same statement (Derived.RangeFuncFrom) asks that the iterator writes no cells; this one is its proof turned so that the blocks 'Mine' may be written, of which the caller's invariant says nothing. -/
set_option linter.unusedVariables false
set_option linter.unusedSimpArgs false
namespace Sw
open Go Go.RowKit
/-- what is said bears that the iterator turns its own blocks, or a new walk of its own -/
def AbM {β : Type} (Mine : Nat → Prop) (B : Nat) (J : β → World → Prop) : Prop :=
  ∀ s W W' row, J s W → W.grownBy W' row → (∀ r, row = some r → Mine r ∨ (B ≤ r ∧ ∃ o : Obj, W.heap[r]? = some o ∧ o.isWalk = true)) → J s W'
/-- what the caller says bears the turn of the iterator's blocks, and of new ones that are no cells -/
def OwnM {β : Type} (Mine : Nat → Prop) (B : Nat) (I : β → World → Prop) : Prop :=
  ∀ s W W' row, I s W → W.grownBy W' row → (∀ r, row = some r → Mine r ∨ (B ≤ r ∧ ∃ o : Obj, W.heap[r]? = some o ∧ o.isCells = false)) → I s W'
theorem OwnM.and {β : Type} {Mine : Nat → Prop} {B : Nat} {I I' : β → World → Prop} (h : OwnM Mine B I) (h' : OwnM Mine B I') : OwnM Mine B (fun s W => I s W ∧ I' s W) := fun s W W' row hs hg hr => ⟨h s W W' row hs.1 hg hr, h' s W W' row hs.2 hg hr⟩
theorem OwnM.turn {β : Type} {Mine : Nat → Prop} {B : Nat} {I : β → World → Prop} (h : OwnM Mine B I) {s : β} {W : World} {l : Nat} {o : Obj} (o' : Obj) (hs : I s W) (hB : B ≤ l) (hl : W.heap[l]? = some o) (ho : o.isCells = false) : I s (W.putObj l o') :=
  h s W _ (some l) hs (grownBy_putObj' W l o') (fun r e => by cases e; exact .inr ⟨hB, o, hl, ho⟩)
theorem OwnM.new {β : Type} {Mine : Nat → Prop} {B : Nat} {I : β → World → Prop} (h : OwnM Mine B I) {s : β} {W : World} (o : Obj) (hs : I s W) : I s (W.alloc o) :=
  h s W _ none hs (World.grownBy_alloc W o none) (fun r e => by cases e)
/-- a block that is cells, and none of the iterator's -/
theorem blk_ownM {W W' : World} {row : Option Nat} {Mine : Nat → Prop} {B g : Nat} {t : TypeId} {cs : Array Value} (h : Blk W g t cs) (hm : ¬ Mine g) (hg : W.grownBy W' row) (hr : ∀ r, row = some r → Mine r ∨ (B ≤ r ∧ ∃ o : Obj, W.heap[r]? = some o ∧ o.isCells = false)) : Blk W' g t cs :=
  h.grown hg (fun e => by
    rcases hr g e.symm with h1 | ⟨_, o, ho, hc⟩
    · exact hm h1
    · unfold Blk at h
      rw [h] at ho
      cases ho
      cases hc)
theorem ownM_below {β : Type} {Mine : Nat → Prop} {n₀ B : Nat} {w₀ : World} (hn : n₀ ≤ w₀.heap.size) (hB : n₀ ≤ B) (hm : ∀ r, Mine r → n₀ ≤ r) : OwnM Mine B (fun (_ : β) W => Below n₀ w₀ W) :=
  fun _ _ _ _ hs hg hr => hs.grown hg (Nat.le_trans hn hs.size) (fun k e => by
    rcases hr k e with h | h
    · exact hm k h
    · exact Nat.le_trans hB h.1)
/-- an iterator's contract, where it may write the blocks Mine -/
def SeqOwns {α : Type} (Mine : Nat → Prop) (F : Fence) (n : Nat) (P : Program) (g : Nat) (lb : Array Value) (encs : α → Array Value) (Kp : World → World → Prop) (S Sp : List α → Prop) (N : Nat) (w : World) : Prop :=
  ∀ (l : Nat) (J Jx : List α → World → Prop) (W : World), Below w.heap.size w W → AbM Mine W.heap.size J → AbM Mine W.heap.size Jx →
    (∀ pre x W1, J pre W1 → pre.length < N → YieldAt F (n - 1) P l (encs x) W1 fun e W' =>
      (e = .returned (.bool true) ∧ J (pre ++ [x]) W' ∧ Kp W1 W') ∨ (e = .returned (.bool false) ∧ Jx (pre ++ [x]) W')) →
    J [] W →
    CallsIn F n P g (#[.func (.yield l) #[] #[]] ++ lb) W fun e W' => (∃ v, e = .returned v) ∧ ((∃ xs, S xs ∧ J xs W') ∨ (∃ pre, Sp pre ∧ Jx pre W'))
variable {F : Fence} {n : Nat} {P : Program}
theorem wpIn_rangeFunc_mine {α : Type} {g : Operand} {ps : Array Tmp} {assign body : Code} {Q : Exit → Act → World → Prop} {a : Act} {w : World} {Mine : Nat → Prop} (hM : ∀ r, Mine r → r < w.heap.size)
    (hro : F.round = none) (h1 : 1 ≤ n) {gf : Nat} {lb : Array Value} (hg : a.eval g = .func (.func gf) #[] lb) (hFg : F.fn gf) (eg : ∀ args w, (callFunc gf args).run P w = .ok (.enter gf args) w)
    {encs : α → Array Value} {Kp : World → World → Prop} {S Sp : List α → Prop} {N : Nat} {w0 : World} (hseq : SeqOwns Mine F (n - 1) P gf lb encs Kp S Sp N w0)
    (hKt : ∀ {A B C : World}, Kp A B → Kp B C → Kp A C) (hKb : ∀ (W : World) (l : Nat) (o o' : Obj), w.heap.size ≤ l → W.heap[l]? = some o → o.isCells = false → o.isWalk = false → Kp W (W.putObj l o')) (hb0 : Below w0.heap.size w0 w) (hps : ∀ x, (encs x).size = ps.size)
    (I : List α → World → Prop) (Ix : Code → List α → World → Prop) (hI : OwnM Mine w.heap.size I) (hIx : ∀ c, OwnM Mine w.heap.size (Ix c)) (h0 : I [] w) (a₁ : α → Act)
    (hassign : ∀ (l : Nat) (x : α) (W : World) (K : Act → World → Prop), K (a₁ x) W →
      assign.wpIn (F.inRound l) (n - 1 - 1) P (Exit.then K (fun _ _ _ => False)) { tmps := (ps.zip (encs x)).foldl (fun t (p, v) => t.setIfInBounds p v) a.tmps, defers := [] } W)
    (hbody : ∀ (l : Nat) (pre : List α) (x : α) (W : World), I pre W → pre.length < N → body.wpIn (F.inRound l) (n - 1 - 1) P (ownPostK Kp I Ix (pre ++ [x]) W) (a₁ x) W)
    (hdone : ∀ (D : Nat) (xs : List α) (W : World), w.heap.size ≤ D → S xs → I xs W → W.heap[D]? = some (.deferred (some [])) → Q .normal { a with defers := { target := .collected D, args := #[] } :: a.defers } W)
    (hstop : ∀ (D : Nat) (c : Code) (pre : List α) (W : World), w.heap.size ≤ D → Sp pre → Ix c pre W → W.heap[D]? = some (.deferred (some [])) → c.wpIn F n P Q { a with defers := { target := .collected D, args := #[] } :: a.defers } W) :
    (Code.rangeFunc g ps assign body).wpIn F n P Q a w := by
  refine wpIn_rangeFunc fun fn hfn => ?_
  rw [hro]
  obtain ⟨D, hD⟩ : ∃ D, D = w.heap.size := ⟨_, rfl⟩
  obtain ⟨R, hR⟩ : ∃ R : LoopState → Option Code → Loop, R = fun st pe => { state := st, pending := pe, fn, tmps := a.tmps, params := ps, assign, body, defers := w.heap.size } := ⟨_, rfl⟩
  obtain ⟨W1, hW1⟩ : ∃ W1, (w.alloc (.deferred (some []))).alloc (.loop (R .ready none)) = W1 := ⟨_, rfl⟩
  have hs1 : W1.heap.size = D + 1 + 1 := by rw [← hW1, hD]; simp
  have hL1 : W1.heap[D + 1]? = some (.loop (R .ready none)) := by
    rw [← hW1, hD]
    have := World.alloc_heap_new (w.alloc (.deferred (some []))) (.loop (R .ready none))
    rwa [World.size_alloc] at this
  have hD1 : W1.heap[D]? = some (.deferred (some [])) := by
    rw [← hW1, hD]
    exact (Below.heap_alloc _ _ _ (by simp)).trans (World.alloc_heap_new w _)
  have hI1 : I [] W1 := by rw [← hW1]; exact hI.new _ (hI.new _ h0)
  have hb1 : Below w0.heap.size w0 W1 := by
    rw [← hW1]
    exact hb0.trans ((((Below.refl _ w).alloc (Nat.le_refl _) _).alloc (by simp) _).mono hb0.size)
  -- the loop's own record and its block lie where the iterator does not write
  have stays : ∀ {A B : World} {row : Option Nat} {k : Nat} {o : Obj}, D ≤ k → A.heap[k]? = some o → o.isWalk = false → A.grownBy B row → (∀ r, row = some r → Mine r ∨ (W1.heap.size ≤ r ∧ ∃ o : Obj, A.heap[r]? = some o ∧ o.isWalk = true)) → B.heap[k]? = some o := by
    intro A B row k o hk ho hw hgr hr
    refine (hgr.block k (Array.getElem?_eq_some_iff.1 ho).1 (fun e => ?_)).trans ho
    rcases hr k e.symm with h | ⟨_, o', ho', hw'⟩
    · have := hM k h; omega
    · rw [ho] at ho'; cases ho'; rw [hw] at hw'; cases hw'
  have wide : ∀ {A : World} {row : Option Nat}, (∀ r, row = some r → Mine r ∨ (W1.heap.size ≤ r ∧ ∃ o : Obj, A.heap[r]? = some o ∧ o.isWalk = true)) → (∀ r, row = some r → Mine r ∨ (w.heap.size ≤ r ∧ ∃ o : Obj, A.heap[r]? = some o ∧ o.isCells = false)) := by
    intro A row hr r e
    rcases hr r e with h | ⟨hB, o, ho, hw⟩
    · exact .inl h
    · exact .inr ⟨by omega, o, ho, Obj.not_cells_of_walk hw⟩
  refine ⟨D + 1, [{ target := .collected D, args := #[] }], W1, { target := .fn (.func gf) lb, args := #[.func (.yield (D + 1)) #[] #[]] }, W1, gf, #[.func (.yield (D + 1)) #[] #[]] ++ lb, W1, ?_, ?_, ?_, ?_, fun _ => h1, ?_⟩
  · rw [← hW1, hR, hD]; exact run_enterLoop_outer _ _ _ _ _
  · simp only [resolve, hg]
    simp [go_sem]
  · intro f' hf'
    simp [Target.leads] at hf'
    subst hf'
    exact hFg
  · simp [invoke, go_sem, eg]
  refine (hseq (D + 1) (fun pre W => I pre W ∧ W.heap[D + 1]? = some (.loop (R .ready none)) ∧ W.heap[D]? = some (.deferred (some [])))
    (fun pre W => ∃ c, Ix c pre W ∧ W.heap[D + 1]? = some (.loop (R .done (some c))) ∧ W.heap[D]? = some (.deferred (some []))) W1 hb1
    (fun s A B row hs hgr hr => ⟨hI s A B row hs.1 hgr (wide hr), stays (by omega) hs.2.1 rfl hgr hr, stays (Nat.le_refl _) hs.2.2 rfl hgr hr⟩)
    (fun s A B row hs hgr hr => by
      obtain ⟨c, hc, hl, hk⟩ := hs
      exact ⟨c, hIx c s A B row hc hgr (wide hr), stays (by omega) hl rfl hgr hr, stays (Nat.le_refl _) hk rfl hgr hr⟩)
    ?_ ⟨hI1, hL1, hD1⟩).mono ?_
  · rintro pre x W ⟨hi, hl, hk⟩ hlen
    have hlt : D + 1 < W.heap.size := (Array.getElem?_eq_some_iff.1 hl).1
    obtain ⟨busy, hbusy⟩ : ∃ b : Loop, b = { R .ready none with state := .busy } := ⟨_, rfl⟩
    obtain ⟨W2, hW2⟩ : ∃ W2, W.putObj (D + 1) (.loop busy) = W2 := ⟨_, rfl⟩
    have hy := run_yield (P := P) (args := encs x) hl (by rw [hR]; exact hps x)
    rw [hR] at hy
    refine ⟨fn, _, assign, body, hy, roundIn_of_wpIn hfn (hassign _ x W _ ⟨W2, by rw [← hW2, hbusy]; exact run_beginRound hl (by rw [hR]), ?_⟩)⟩
    have hl2 : W2.heap[D + 1]? = some (.loop busy) := by rw [← hW2]; exact World.putObj_heap_same hlt
    have hk2 : W2.heap[D]? = some (.deferred (some [])) := by rw [← hW2]; exact (World.putObj_heap_other (by omega)).trans hk
    have hw2 : Kp W W2 := by rw [← hW2]; exact hKb _ _ _ _ (by omega) hl rfl rfl
    have hi2 : I pre W2 := by rw [← hW2]; exact hI.turn _ hi (by omega) hl rfl
    refine wpIn_mono (hbody _ pre x _ hi2 hlen) ?_
    have fin : ∀ (jump : Option Code) (W3 : World), KeepsOthers W2 W3 → ∃ W4, W3.putObj (D + 1) (.loop (R (if jump.isNone then .ready else .done) jump)) = W4 ∧
        (Instr.endRound (D + 1) jump).run P W3 = .ok (.bool jump.isNone) W4 ∧ W3.heap[D + 1]? = some (.loop busy) ∧
        W4.heap[D + 1]? = some (.loop (R (if jump.isNone then .ready else .done) jump)) ∧ W4.heap[D]? = some (.deferred (some [])) := fun jump W3 hk3 => by
      have hl3 := hk3.same _ _ hl2 rfl
      have := run_endRound (P := P) jump hl3
      rw [hbusy, hR] at this
      refine ⟨_, rfl, ?_, hl3, World.putObj_heap_same (Array.getElem?_eq_some_iff.1 hl3).1, (World.putObj_heap_other (by omega)).trans (hk3.same _ _ hk2 rfl)⟩
      rw [hR]
      exact this
    rintro e a3 W3 hp
    have out : ∀ c, KeepsOthers W2 W3 → Ix c (pre ++ [x]) W3 → ∃ v W4, (Instr.endRound (D + 1) (some c)).run P W3 = .ok v W4 ∧ Ending.returned v = .returned (.bool false) ∧ Ix c (pre ++ [x]) W4 ∧ W4.heap[D + 1]? = some (.loop (R .done (some c))) ∧ W4.heap[D]? = some (.deferred (some [])) := fun c hk3 hi3 => by
      obtain ⟨W4, hW4, hr, hl3, hl4, hk4⟩ := fin (some c) W3 hk3
      exact ⟨_, W4, hr, rfl, by rw [← hW4]; exact (hIx c).turn _ hi3 (by omega) hl3 rfl, hl4, hk4⟩
    cases e with
    | normal =>
      obtain ⟨hk3, hkp3, hi3⟩ := hp
      obtain ⟨W4, hW4, hr, hl3, hl4, hk4⟩ := fin none W3 hk3
      refine ⟨_, W4, hr, .inl ⟨rfl, ⟨?_, hl4, hk4⟩, ?_⟩⟩
      · rw [← hW4]; exact hI.turn _ hi3 (by omega) hl3 rfl
      · rw [← hW4]; exact hKt (hKt hw2 hkp3) (hKb _ _ _ _ (by omega) hl3 rfl (by rw [hbusy]; rfl))
    | ret =>
      obtain ⟨v, W4, hr, hv, h4⟩ := out .ret hp.1 hp.2
      exact ⟨v, W4, hr, .inr ⟨hv, .ret, h4⟩⟩
    | exit id =>
      obtain ⟨v, W4, hr, hv, h4⟩ := out (.exit id) hp.1 hp.2
      exact ⟨v, W4, hr, .inr ⟨hv, .exit id, h4⟩⟩
    | goto t =>
      obtain ⟨v, W4, hr, hv, h4⟩ := out (.goto t) hp.1 hp.2
      exact ⟨v, W4, hr, .inr ⟨hv, .goto t, h4⟩⟩
    | panic ch => exact hp.elim
    | outgrown => exact hp.elim
  · rintro e W2 ⟨⟨v, rfl⟩, (⟨xs, hS, hi, hl, hk⟩ | ⟨pre, hSp, c, hi, hl, hk⟩)⟩
    · have hr := run_endLoop (P := P) hl (by rw [hR]; simp)
      rw [hR] at hr
      refine ⟨none, _, hr, ?_⟩
      exact hdone D xs _ (by omega) hS (hI.turn _ hi (by omega) hl rfl) ((World.putObj_heap_other (by omega)).trans hk)
    · have hr := run_endLoop (P := P) hl (by rw [hR]; simp)
      rw [hR] at hr
      refine ⟨some c, _, hr, ?_⟩
      exact hstop D c pre _ (by omega) hSp ((hIx c).turn _ hi (by omega) hl rfl) ((World.putObj_heap_other (by omega)).trans hk)
end Sw
/- Contracts of the library's functions at this seat's program, laid by the kit's own tools (lay-shelf, lay-plain): strings_Compare, stringslite_Index_one, strings_Index_one, strings_Count_one, strings_LastIndex_one, strings_Split, slices_Contains_string, slices_Reverse_string_cells. -/
set_option linter.unusedVariables false
namespace Go.Proofs
open Go.Shelf
def Tryz.lays106_ren : Go.Shelf.Ren := ⟨fun | 106 => 78 | 213 => 117 | 265 => 159 | n => n, fun | 9 => 9 | 3 => 3 | n => n, fun | n => n⟩
theorem Tryz.lays106 : Go.Proofs.Lays.n106 Tryz.prog Tryz.lays106_ren := {
  mixed := by kernel_rfl
  f106 := Tryz.func78.trans (congrArg some (by kernel_rfl))
  f213 := Tryz.func117.trans (congrArg some (by kernel_rfl))
  f265 := Tryz.func159.trans (congrArg some (by kernel_rfl))
  t3 := Tryz.underlying3
  a3 := Tryz.isAgg3
  z3 := Tryz.sizeOf3
  v3 := Tryz.zeroValue3
  t9 := Tryz.underlying9
  a9 := Tryz.isAgg9
  z9 := Tryz.sizeOf9
  v9 := Tryz.zeroValue9 }
open Go.RowKit in
theorem Tryz.strings_Compare (a b : ByteArray) (w : World) :
    Calls Tryz.prog 78 #[.string a, .string b] w fun e w' => e = .returned (.int .i64 (Lib.compareBytes a.data.toList b.data.toList)) ∧ w' = w := Any.strings_Compare Tryz.lays106 a b w
def Tryz.lays219_ren : Go.Shelf.Ren := ⟨fun | 219 => 189 | 217 => 213 | 225 => 214 | 224 => 215 | 267 => 216 | 266 => 225 | 314 => 226 | n => n, fun | 9 => 9 | 3 => 3 | 4 => 4 | 5 => 5 | 46 => 218 | 146 => 269 | 51 => 51 | n => n, fun | 1 => 0 | n => n⟩
theorem Tryz.lays219 : Go.Proofs.Lays.n219 Tryz.prog Tryz.lays219_ren := {
  mixed := by kernel_rfl
  f217 := Tryz.func213.trans (congrArg some (by kernel_rfl))
  f219 := Tryz.func189.trans (congrArg some (by kernel_rfl))
  f224 := Tryz.func215.trans (congrArg some (by kernel_rfl))
  f225 := Tryz.func214.trans (congrArg some (by kernel_rfl))
  f266 := Tryz.func225.trans (congrArg some (by kernel_rfl))
  f267 := Tryz.func216.trans (congrArg some (by kernel_rfl))
  f314 := Tryz.func226.trans (congrArg some (by kernel_rfl))
  t3 := Tryz.underlying3
  a3 := Tryz.isAgg3
  z3 := Tryz.sizeOf3
  v3 := Tryz.zeroValue3
  t4 := Tryz.underlying4
  a4 := Tryz.isAgg4
  z4 := Tryz.sizeOf4
  v4 := Tryz.zeroValue4
  t5 := Tryz.underlying5
  a5 := Tryz.isAgg5
  z5 := Tryz.sizeOf5
  v5 := Tryz.zeroValue5
  t9 := Tryz.underlying9
  a9 := Tryz.isAgg9
  z9 := Tryz.sizeOf9
  v9 := Tryz.zeroValue9
  t46 := Tryz.underlying218
  a46 := Tryz.isAgg218
  z46 := Tryz.sizeOf218
  v46 := Tryz.zeroValue218
  t51 := Tryz.underlying51
  a51 := Tryz.isAgg51
  z51 := Tryz.sizeOf51
  v51 := Tryz.zeroValue51
  t146 := Tryz.underlying269
  a146 := Tryz.isAgg269
  z146 := Tryz.sizeOf269
  v146 := Tryz.zeroValue269
  g1 := by kernel_rfl }
open Go.RowKit Go.Lib in
theorem Tryz.stringslite_Index_one (s : ByteArray) (c : UInt8) (w : World) :
    Calls Tryz.prog 189 #[.string s, .string ⟨#[c]⟩] w fun e w' => e = .returned (.int .i64 (Lib.indexByte s.data.toList c)) ∧ w' = w := Any.stringslite_Index_one Tryz.lays219 s c w
def Tryz.lays143_ren : Go.Shelf.Ren := ⟨fun | 143 => 188 | 219 => 189 | 217 => 213 | 225 => 214 | 224 => 215 | 267 => 216 | 266 => 225 | 314 => 226 | n => n, fun | 9 => 9 | 3 => 3 | 4 => 4 | 5 => 5 | 46 => 218 | 146 => 269 | 51 => 51 | n => n, fun | 1 => 0 | n => n⟩
theorem Tryz.lays143 : Go.Proofs.Lays.n143 Tryz.prog Tryz.lays143_ren := {
  mixed := by kernel_rfl
  f143 := Tryz.func188.trans (congrArg some (by kernel_rfl))
  f217 := Tryz.func213.trans (congrArg some (by kernel_rfl))
  f219 := Tryz.func189.trans (congrArg some (by kernel_rfl))
  f224 := Tryz.func215.trans (congrArg some (by kernel_rfl))
  f225 := Tryz.func214.trans (congrArg some (by kernel_rfl))
  f266 := Tryz.func225.trans (congrArg some (by kernel_rfl))
  f267 := Tryz.func216.trans (congrArg some (by kernel_rfl))
  f314 := Tryz.func226.trans (congrArg some (by kernel_rfl))
  t3 := Tryz.underlying3
  a3 := Tryz.isAgg3
  z3 := Tryz.sizeOf3
  v3 := Tryz.zeroValue3
  t4 := Tryz.underlying4
  a4 := Tryz.isAgg4
  z4 := Tryz.sizeOf4
  v4 := Tryz.zeroValue4
  t5 := Tryz.underlying5
  a5 := Tryz.isAgg5
  z5 := Tryz.sizeOf5
  v5 := Tryz.zeroValue5
  t9 := Tryz.underlying9
  a9 := Tryz.isAgg9
  z9 := Tryz.sizeOf9
  v9 := Tryz.zeroValue9
  t46 := Tryz.underlying218
  a46 := Tryz.isAgg218
  z46 := Tryz.sizeOf218
  v46 := Tryz.zeroValue218
  t51 := Tryz.underlying51
  a51 := Tryz.isAgg51
  z51 := Tryz.sizeOf51
  v51 := Tryz.zeroValue51
  t146 := Tryz.underlying269
  a146 := Tryz.isAgg269
  z146 := Tryz.sizeOf269
  v146 := Tryz.zeroValue269
  g1 := by kernel_rfl }
open Go.RowKit Go.Lib in
theorem Tryz.strings_Index_one (s : ByteArray) (c : UInt8) (w : World) :
    Calls Tryz.prog 188 #[.string s, .string ⟨#[c]⟩] w fun e w' => e = .returned (.int .i64 (Lib.indexByte s.data.toList c)) ∧ w' = w := Any.strings_Index_one Tryz.lays143 s c w
def Tryz.lays138_ren : Go.Shelf.Ren := ⟨fun | 138 => 187 | 195 => 211 | 218 => 212 | 143 => 188 | 219 => 189 | 217 => 213 | 225 => 214 | 224 => 215 | 267 => 216 | 266 => 225 | 314 => 226 | n => n, fun | 9 => 9 | 3 => 3 | 4 => 4 | 5 => 5 | 0 => 0 | 46 => 218 | 146 => 269 | 51 => 51 | n => n, fun | 1 => 0 | n => n⟩
theorem Tryz.lays138 : Go.Proofs.Lays.n138 Tryz.prog Tryz.lays138_ren := {
  mixed := by kernel_rfl
  f138 := Tryz.func187.trans (congrArg some (by kernel_rfl))
  f143 := Tryz.func188.trans (congrArg some (by kernel_rfl))
  f195 := Tryz.func211.trans (congrArg some (by kernel_rfl))
  f217 := Tryz.func213.trans (congrArg some (by kernel_rfl))
  f218 := Tryz.func212.trans (congrArg some (by kernel_rfl))
  f219 := Tryz.func189.trans (congrArg some (by kernel_rfl))
  f224 := Tryz.func215.trans (congrArg some (by kernel_rfl))
  f225 := Tryz.func214.trans (congrArg some (by kernel_rfl))
  f266 := Tryz.func225.trans (congrArg some (by kernel_rfl))
  f267 := Tryz.func216.trans (congrArg some (by kernel_rfl))
  f314 := Tryz.func226.trans (congrArg some (by kernel_rfl))
  t0 := Tryz.underlying0
  a0 := Tryz.isAgg0
  z0 := Tryz.sizeOf0
  v0 := Tryz.zeroValue0
  t3 := Tryz.underlying3
  a3 := Tryz.isAgg3
  z3 := Tryz.sizeOf3
  v3 := Tryz.zeroValue3
  t4 := Tryz.underlying4
  a4 := Tryz.isAgg4
  z4 := Tryz.sizeOf4
  v4 := Tryz.zeroValue4
  t5 := Tryz.underlying5
  a5 := Tryz.isAgg5
  z5 := Tryz.sizeOf5
  v5 := Tryz.zeroValue5
  t9 := Tryz.underlying9
  a9 := Tryz.isAgg9
  z9 := Tryz.sizeOf9
  v9 := Tryz.zeroValue9
  t46 := Tryz.underlying218
  a46 := Tryz.isAgg218
  z46 := Tryz.sizeOf218
  v46 := Tryz.zeroValue218
  t51 := Tryz.underlying51
  a51 := Tryz.isAgg51
  z51 := Tryz.sizeOf51
  v51 := Tryz.zeroValue51
  t146 := Tryz.underlying269
  a146 := Tryz.isAgg269
  z146 := Tryz.sizeOf269
  v146 := Tryz.zeroValue269
  g1 := by kernel_rfl }
open Go.RowKit Go.Lib in
theorem Tryz.strings_Count_one (s : ByteArray) (c : UInt8) (w : World) :
    Calls Tryz.prog 187 #[.string s, .string ⟨#[c]⟩] w fun e w' => e = .returned (.int .i64 (Lib.countByte s.data.toList c)) ∧ w' = w := Any.strings_Count_one Tryz.lays138 s c w
def Tryz.lays148_ren : Go.Shelf.Ren := ⟨fun | 148 => 166 | 222 => 196 | 223 => 197 | 269 => 219 | n => n, fun | 9 => 9 | 3 => 3 | 4 => 4 | 5 => 5 | 146 => 269 | 51 => 51 | 46 => 218 | n => n, fun | n => n⟩
theorem Tryz.lays148 : Go.Proofs.Lays.n148 Tryz.prog Tryz.lays148_ren := {
  mixed := by kernel_rfl
  f148 := Tryz.func166.trans (congrArg some (by kernel_rfl))
  f222 := Tryz.func196.trans (congrArg some (by kernel_rfl))
  f223 := Tryz.func197.trans (congrArg some (by kernel_rfl))
  f269 := Tryz.func219.trans (congrArg some (by kernel_rfl))
  t3 := Tryz.underlying3
  a3 := Tryz.isAgg3
  z3 := Tryz.sizeOf3
  v3 := Tryz.zeroValue3
  t4 := Tryz.underlying4
  a4 := Tryz.isAgg4
  z4 := Tryz.sizeOf4
  v4 := Tryz.zeroValue4
  t5 := Tryz.underlying5
  a5 := Tryz.isAgg5
  z5 := Tryz.sizeOf5
  v5 := Tryz.zeroValue5
  t9 := Tryz.underlying9
  a9 := Tryz.isAgg9
  z9 := Tryz.sizeOf9
  v9 := Tryz.zeroValue9
  t46 := Tryz.underlying218
  a46 := Tryz.isAgg218
  z46 := Tryz.sizeOf218
  v46 := Tryz.zeroValue218
  t51 := Tryz.underlying51
  a51 := Tryz.isAgg51
  z51 := Tryz.sizeOf51
  v51 := Tryz.zeroValue51
  t146 := Tryz.underlying269
  a146 := Tryz.isAgg269
  z146 := Tryz.sizeOf269
  v146 := Tryz.zeroValue269 }
open Go.RowKit Go.Lib in
theorem Tryz.strings_LastIndex_one (s sub : ByteArray) (h1 : sub.size = 1) (hs : s.size < 4611686018427387904) (w : World) :
    Calls Tryz.prog 166 #[.string s, .string sub] w fun e w' => e = .returned (.int .i64 (Lib.lastIndexByte s ((sub[0]'(by omega)).toNat : Int))) ∧ w' = w := Any.strings_LastIndex_one Tryz.lays148 s sub h1 hs w
def Tryz.lays146_ren : Go.Shelf.Ren := ⟨fun | 146 => 116 | 221 => 158 | 268 => 186 | 138 => 187 | 143 => 188 | 195 => 211 | 197 => 191 | 218 => 212 | 219 => 189 | 260 => 217 | 217 => 213 | 225 => 214 | 224 => 215 | 267 => 216 | 266 => 225 | 314 => 226 | n => n, fun | 9 => 9 | 31 => 34 | 3 => 3 | 4 => 4 | 0 => 0 | 105 => 247 | 21 => 21 | 5 => 5 | 46 => 218 | 119 => 273 | 139 => 276 | 138 => 275 | 146 => 269 | 51 => 51 | n => n, fun | 1 => 0 | 3 => 1 | 4 => 2 | n => n⟩
theorem Tryz.lays146 : Go.Proofs.Lays.n146 Tryz.prog Tryz.lays146_ren := {
  mixed := by kernel_rfl
  f138 := Tryz.func187.trans (congrArg some (by kernel_rfl))
  f143 := Tryz.func188.trans (congrArg some (by kernel_rfl))
  f146 := Tryz.func116.trans (congrArg some (by kernel_rfl))
  f195 := Tryz.func211.trans (congrArg some (by kernel_rfl))
  f197 := Tryz.func191.trans (congrArg some (by kernel_rfl))
  f217 := Tryz.func213.trans (congrArg some (by kernel_rfl))
  f218 := Tryz.func212.trans (congrArg some (by kernel_rfl))
  f219 := Tryz.func189.trans (congrArg some (by kernel_rfl))
  f221 := Tryz.func158.trans (congrArg some (by kernel_rfl))
  f224 := Tryz.func215.trans (congrArg some (by kernel_rfl))
  f225 := Tryz.func214.trans (congrArg some (by kernel_rfl))
  f260 := Tryz.func217.trans (congrArg some (by kernel_rfl))
  f266 := Tryz.func225.trans (congrArg some (by kernel_rfl))
  f267 := Tryz.func216.trans (congrArg some (by kernel_rfl))
  f268 := Tryz.func186.trans (congrArg some (by kernel_rfl))
  f314 := Tryz.func226.trans (congrArg some (by kernel_rfl))
  t0 := Tryz.underlying0
  a0 := Tryz.isAgg0
  z0 := Tryz.sizeOf0
  v0 := Tryz.zeroValue0
  t3 := Tryz.underlying3
  a3 := Tryz.isAgg3
  z3 := Tryz.sizeOf3
  v3 := Tryz.zeroValue3
  t4 := Tryz.underlying4
  a4 := Tryz.isAgg4
  z4 := Tryz.sizeOf4
  v4 := Tryz.zeroValue4
  t5 := Tryz.underlying5
  a5 := Tryz.isAgg5
  z5 := Tryz.sizeOf5
  v5 := Tryz.zeroValue5
  t9 := Tryz.underlying9
  a9 := Tryz.isAgg9
  z9 := Tryz.sizeOf9
  v9 := Tryz.zeroValue9
  t21 := Tryz.underlying21
  a21 := Tryz.isAgg21
  z21 := Tryz.sizeOf21
  v21 := Tryz.zeroValue21
  t31 := Tryz.underlying34
  a31 := Tryz.isAgg34
  z31 := Tryz.sizeOf34
  v31 := Tryz.zeroValue34
  t46 := Tryz.underlying218
  a46 := Tryz.isAgg218
  z46 := Tryz.sizeOf218
  v46 := Tryz.zeroValue218
  t51 := Tryz.underlying51
  a51 := Tryz.isAgg51
  z51 := Tryz.sizeOf51
  v51 := Tryz.zeroValue51
  t105 := Tryz.underlying247
  a105 := Tryz.isAgg247
  z105 := Tryz.sizeOf247
  v105 := Tryz.zeroValue247
  t119 := Tryz.underlying273
  a119 := Tryz.isAgg273
  z119 := Tryz.sizeOf273
  t138 := Tryz.underlying275
  a138 := Tryz.isAgg275
  z138 := Tryz.sizeOf275
  v138 := Tryz.zeroValue275
  t139 := Tryz.underlying276
  a139 := Tryz.isAgg276
  z139 := Tryz.sizeOf276
  v139 := Tryz.zeroValue276
  t146 := Tryz.underlying269
  a146 := Tryz.isAgg269
  z146 := Tryz.sizeOf269
  v146 := Tryz.zeroValue269
  g1 := by kernel_rfl
  g3 := by kernel_rfl
  g4 := by kernel_rfl }
def Tryz.lays110_ren : Go.Shelf.Ren := ⟨fun | 110 => 138 | 109 => 173 | n => n, fun | 31 => 34 | 9 => 9 | 4 => 4 | 3 => 3 | 0 => 0 | n => n, fun | n => n⟩
theorem Tryz.lays110 : Go.Proofs.Lays.n110 Tryz.prog Tryz.lays110_ren := {
  mixed := by kernel_rfl
  f109 := Tryz.func173.trans (congrArg some (by kernel_rfl))
  f110 := Tryz.func138.trans (congrArg some (by kernel_rfl))
  t0 := Tryz.underlying0
  a0 := Tryz.isAgg0
  z0 := Tryz.sizeOf0
  v0 := Tryz.zeroValue0
  t3 := Tryz.underlying3
  a3 := Tryz.isAgg3
  z3 := Tryz.sizeOf3
  v3 := Tryz.zeroValue3
  t4 := Tryz.underlying4
  a4 := Tryz.isAgg4
  z4 := Tryz.sizeOf4
  v4 := Tryz.zeroValue4
  t9 := Tryz.underlying9
  a9 := Tryz.isAgg9
  z9 := Tryz.sizeOf9
  v9 := Tryz.zeroValue9
  t31 := Tryz.underlying34
  a31 := Tryz.isAgg34
  z31 := Tryz.sizeOf34
  v31 := Tryz.zeroValue34 }
open Go.Lib in
theorem Tryz.slices_Contains_string (b off n c : Nat) (zs : List ByteArray) (x : ByteArray) (w : World) (hz : n ≤ zs.length) (hbig : n ≤ 9223372036854775807) (hc : ∀ j, j < zs.length → w.cell? ⟨b, off + j, none⟩ = some (.string (zs.getD j ByteArray.empty))) :
    Calls Tryz.prog 138 #[.slice (some ⟨b, off, none⟩) n c, .string x] w fun e w' => e = .returned (.bool (Lib.containsS (zs.take n) x)) ∧ w' = w := Any.slices_Contains_string Tryz.lays110 b off n c zs x w hz hbig hc
def Tryz.laysNm217_ren : Go.Shelf.Ren := ⟨fun | 17 => 174 | n => n, fun | 24 => 34 | 9 => 9 | 3 => 3 | 4 => 4 | 0 => 0 | n => n, fun | n => n⟩
theorem Tryz.laysNm217 : Go.Proofs.Lays2.n17 Tryz.prog Tryz.laysNm217_ren := {
  mixed := by kernel_rfl
  f17 := Tryz.func174.trans (congrArg some (by kernel_rfl))
  t0 := Tryz.underlying0
  a0 := Tryz.isAgg0
  z0 := Tryz.sizeOf0
  v0 := Tryz.zeroValue0
  t3 := Tryz.underlying3
  a3 := Tryz.isAgg3
  z3 := Tryz.sizeOf3
  v3 := Tryz.zeroValue3
  t4 := Tryz.underlying4
  a4 := Tryz.isAgg4
  z4 := Tryz.sizeOf4
  v4 := Tryz.zeroValue4
  t9 := Tryz.underlying9
  a9 := Tryz.isAgg9
  z9 := Tryz.sizeOf9
  v9 := Tryz.zeroValue9
  t24 := Tryz.underlying34
  a24 := Tryz.isAgg34
  z24 := Tryz.sizeOf34
  v24 := Tryz.zeroValue34 }
open Go.RowKit Go.Lib Go.Sort in
theorem Tryz.slices_Reverse_string_cells (b off n c : Nat) (Sx : Nat → ByteArray) (w : World) (hbig : n ≤ 9223372036854775807) (hc : ∀ i, i < n → w.cell? ⟨b, off + i, none⟩ = some (.string (Sx i))) (hf : ∀ j, j < n → w.frozen? ⟨b, off + j, none⟩ = false) :
    Calls Tryz.prog 174 #[.slice (some ⟨b, off, none⟩) n c] w fun e w' => e = .returned (.tuple #[]) ∧ ∃ q, w' = (w.drewN q).setCells b off ((Lib.strsOf Sx n).reverse.map encStr) := Any.slices_Reverse_string_cells Tryz.laysNm217 b off n c Sx w hbig hc hf
end Go.Proofs
/- Contracts of strings.SplitSeq at a slash, and of its iterator. -/
set_option linter.unusedVariables false
set_option linter.unusedSimpArgs false
namespace Sw
open Go Go.RowKit
theorem slash_split {l : List UInt8} {i : Nat} (h : Lib.indexByte l 47 = i) : i < l.length ∧ l = l.take i ++ 47 :: l.drop (i + 1) ∧ (47 : UInt8) ∉ l.take i := by
  obtain ⟨h1, h2⟩ := Lib.indexByte_some h
  have hlt : i < l.length := (List.getElem?_eq_some_iff.1 h1).1
  have he : l[i] = 47 := (List.getElem?_eq_some_iff.1 h1).2
  refine ⟨hlt, ?_, ?_⟩
  · conv => lhs; rw [← List.take_append_drop i l]
    rw [List.drop_eq_getElem_cons hlt, he]
  · intro hm
    obtain ⟨k, hk, hke⟩ := List.getElem_of_mem hm
    rw [List.length_take] at hk
    rw [List.getElem_take] at hke
    exact h2 k (by omega) (by rw [List.getElem?_eq_getElem (by omega), hke])
theorem slash_none {l : List UInt8} (h : Lib.indexByte l 47 = -1) : (47 : UInt8) ∉ l := by
  intro hm
  obtain ⟨k, hk, hke⟩ := List.getElem_of_mem hm
  exact Lib.indexByte_none h k (by rw [List.getElem?_eq_getElem hk, hke])
/-- what stands between slashes, as texts -/
def spS (s : ByteArray) : List ByteArray := (spL s.data.toList).map mkB
theorem spL_len : ∀ l : List UInt8, (spL l).length ≤ l.length + 1
  | [] => by simp [spL]
  | b :: l => by
    have := spL_len l
    rw [spL]
    split
    · simp; omega
    · have h := congrArg List.length (spL_head l)
      simp at h ⊢
      omega
theorem spS_len (s : ByteArray) : (spS s).length ≤ s.size + 1 := by
  unfold spS
  rw [List.length_map]
  have := spL_len s.data.toList
  have h : s.data.toList.length = s.size := by simp
  omega
theorem ext_take (X : ByteArray) (n : Nat) : (X.extract 0 n).data.toList = X.data.toList.take n := by
  rw [ByteArray.data_extract, Array.toList_extract, List.extract_eq_take_drop]
  simp
theorem spS_hit {X : ByteArray} {i : Nat} (h : Lib.indexByte X.data.toList 47 = i) : i < X.size ∧ spS X = X.extract 0 i :: spS (X.extract (i + 1) X.size) := by
  obtain ⟨h1, h2, h3⟩ := slash_split h
  have hs : X.data.toList.length = X.size := by simp
  refine ⟨by omega, ?_⟩
  unfold spS
  rw [ext_drop, ← mkB_data (X.extract 0 i), ext_take]
  conv => lhs; rw [h2]
  rw [spL_app _ _ h3]
  rfl
theorem spS_miss {X : ByteArray} (h : Lib.indexByte X.data.toList 47 = -1) : spS X = [X] := by
  unfold spS
  rw [spL_none _ (slash_none h), List.map_singleton, mkB_data]
theorem spS_ne (X : ByteArray) : spS X ≠ [] := by
  unfold spS
  intro h
  exact spL_ne X.data.toList (List.map_eq_nil_iff.1 h)
/-- a text of at most so many bytes -/
abbrev Pc (M : Nat) := { x : ByteArray // x.size ≤ M }
/-- three blocks lie as they lay -/
structure Kp3 (a b c : Nat) (W W' : World) : Prop where
  size : W.heap.size ≤ W'.heap.size
  block : ∀ k, k = a ∨ k = b ∨ k = c → W'.heap[k]? = W.heap[k]?
theorem Kp3.trans {a b c : Nat} {A B C : World} (h : Kp3 a b c A B) (k : Kp3 a b c B C) : Kp3 a b c A C := ⟨Nat.le_trans h.size k.size, fun i hi => (k.block i hi).trans (h.block i hi)⟩
theorem Kp3.turn {a b c : Nat} {w : World} (ha : a < w.heap.size) (hb : b < w.heap.size) (hc : c < w.heap.size) (W : World) (l : Nat) (o o' : Obj) (hl : w.heap.size ≤ l) : Kp3 a b c W (W.putObj l o') :=
  ⟨by simp, fun k hk => World.putObj_heap_other (by rcases hk with rfl | rfl | rfl <;> omega)⟩
end Sw
namespace Go.Proofs.YtnpehjgnplaabaaGreatDoor
open Go Go.RowKit Go.Shelf
open Sw
attribute [local go_sem] Oper.semAt_some
set_option maxRecDepth 100000 in
theorem splitSeq_any (w : World) (s sep : ByteArray) :
    Calls Tryz.prog 162 #[.string s, .string sep, .int .i64 0] w fun e w' => e = .returned (.func (.func 190) #[] #[.pointer (some ⟨w.heap.size + 1, 0, none⟩), .pointer (some ⟨w.heap.size, 0, none⟩), .pointer (some ⟨w.heap.size + 1 + 1, 0, none⟩)]) ∧ w' = ((w.alloc (.cells #[.string s] 9)).alloc (.cells #[.string sep] 9)).alloc (.cells #[.int .i64 0] 3) := by
  go_enter Tryz.func162, Tryz.ntmps162
  go_wp2_with fail
  go_ret
  exact ⟨rfl, rfl⟩
set_option maxRecDepth 100000 in
theorem SplitSeq_any (w : World) (s sep : ByteArray) :
    Calls Tryz.prog 121 #[.string s, .string sep] w fun e w' => e = .returned (.func (.func 190) #[] #[.pointer (some ⟨w.heap.size + 1, 0, none⟩), .pointer (some ⟨w.heap.size, 0, none⟩), .pointer (some ⟨w.heap.size + 1 + 1, 0, none⟩)]) ∧ w' = ((w.alloc (.cells #[.string s] 9)).alloc (.cells #[.string sep] 9)).alloc (.cells #[.int .i64 0] 3) := by
  have HS := Lib.hid (splitSeq_any w s sep)
  go_enter Tryz.func121, Tryz.ntmps121
  go_wp2_with fail
  refine HS.out.mono ?_
  rintro e w1 ⟨rfl, rfl⟩
  go_wp2_with fail
  go_ret
  exact ⟨rfl, rfl⟩
set_option maxRecDepth 100000 in
set_option maxHeartbeats 4000000 in
theorem splitSeq_owns (n : Nat) (hn : 2 ≤ n) (bp bs bv : Nat) (s : ByteArray) (w : World) (hsz : s.size ≤ 1000000) (hp : Blk w bp 9 #[.string ⟨#[47]⟩]) (hs : Blk w bs 9 #[.string s]) (hv : Blk w bv 3 #[.int .i64 0]) (hne : bp ≠ bs) :
    SeqOwns (fun k => k = bs) Fence.wide n Tryz.prog 190 #[.pointer (some ⟨bp, 0, none⟩), .pointer (some ⟨bs, 0, none⟩), .pointer (some ⟨bv, 0, none⟩)] (fun x : Pc s.size => #[.string x.1]) (Kp3 bp bs bv) (fun xs => xs.map (·.1) = spS s) (fun pre => ∃ r, spS s = pre.map (·.1) ++ r) (s.size + 1) w := fun l J Jx W hW hJ hJx hY hJ0 => by
  have hPW := hp.below hW hp.lt
  have hSW := hs.below hW hs.lt
  have hVW := hv.below hW hv.lt
  have HI := Lib.hid (Tryz.strings_Index_one)
  have hvs : bv ≠ bs := fun e => Blk.other hv hs (by decide) e
  have HY := Lib.hid hY; clear hY
  have HJ := Lib.hid hJ; clear hJ hJx
  have c1 := hPW.cell 0
  simp at c1
  refine callsIn_of_wp Tryz.func190 rfl trivial ?_ rfl
  simp only [Tryz.ntmps190, List.size_toArray, List.length_cons, List.length_nil, Nat.reduceAdd, Nat.reduceSub, Array.replicate_succ, Array.replicate_zero, List.push_toArray, List.append_toArray, List.nil_append, List.cons_append]
  gi_wp2
  gi_loopw [7, 8] (fun _ _ wr => ∃ (X : ByteArray) (pre : List (Pc s.size)), X.size ≤ s.size ∧ Blk wr bp 9 #[.string ⟨#[47]⟩] ∧ Blk wr bs 9 #[.string X] ∧ Blk wr bv 3 #[.int .i64 0] ∧ pre.map (·.1) ++ spS X = spS s ∧ J pre wr ∧ W.heap.size ≤ wr.heap.size) (fun _ _ wr => strSz ((wr.cell? ⟨bs, 0, none⟩).getD undef))
  case atStart => exact ⟨s, [], Nat.le_refl _, hPW, hSW, hVW, rfl, hJ0, Nat.le_refl _⟩
  case round =>
    obtain ⟨X, pre, hX, hP, hS, hV, hpre, hJs, hWs⟩ := hrel
    have r1 := hP.cell 0
    have r2 := hS.cell 0
    have r3 := hV.cell 0
    have r4 := hS.frozen 0
    simp at r1 r2 r3
    have hix := HI.out X 47 wr
    have hlen := congrArg List.length hpre
    rw [List.length_append, List.length_map] at hlen
    have htot := spS_len s
    have hpos : 0 < (spS X).length := List.length_pos_iff.2 (spS_ne X)
    have hge := Lib.indexByte_ge X.data.toList 47
    obtain ⟨j, hj⟩ : ∃ j, Lib.indexByte X.data.toList 47 = j := ⟨_, rfl⟩
    rw [hj] at hix hge
    have HIX := Lib.hid hix; clear hix
    by_cases h0 : j < 0
    · obtain rfl : j = -1 := by omega
      have hmiss := spS_miss hj
      rw [hmiss] at hpre
      obtain ⟨fn, tmps, assign, body, hy, hR⟩ := HY.out pre ⟨X, hX⟩ wr hJs (by omega)
      have HP := Lib.hid hpre; clear hpre hmiss hlen hpos
      gi_wp2
      refine ⟨trivial, fun _ => by omega, ?_⟩
      refine (callsIn_wide.2 HIX.out).mono ?_
      rintro e W1 ⟨rfl, rfl⟩
      gi_wp2
      refine ⟨fun _ => by omega, hR.mono ?_⟩
      rintro e W3 (⟨rfl, hJ3, hk3⟩ | ⟨rfl, hJx3⟩)
      · gi_wp2
        go_end0
        refine ⟨⟨_, rfl⟩, .inl ⟨_, ?_, hJ3⟩⟩
        rw [List.map_append]
        exact HP.out
      · gi_wp2
        go_end0
        refine ⟨⟨_, rfl⟩, .inr ⟨_, ⟨[], ?_⟩, hJx3⟩⟩
        rw [List.map_append, List.append_nil]
        exact HP.out.symm
    · obtain ⟨i, rfl⟩ := Int.eq_ofNat_of_zero_le (show 0 ≤ j by omega)
      obtain ⟨hiX, hhit⟩ := spS_hit hj
      rw [hhit] at hpre
      have hz1 : (X.extract 0 i).size ≤ s.size := by rw [ByteArray.size_extract]; omega
      have hz2 : (X.extract (i + 1) X.size).size ≤ s.size := by rw [ByteArray.size_extract]; omega
      have hz3 : (X.extract (i + 1) X.size).size < X.size := by rw [ByteArray.size_extract]; omega
      obtain ⟨fn, tmps, assign, body, hy, hR⟩ := HY.out pre ⟨X.extract 0 i, hz1⟩ wr hJs (by omega)
      have HP := Lib.hid hpre; clear hpre hhit hlen hpos
      gi_wp2
      refine ⟨trivial, fun _ => by omega, ?_⟩
      refine (callsIn_wide.2 HIX.out).mono ?_
      rintro e W1 ⟨rfl, rfl⟩
      gi_wp2
      refine ⟨fun _ => by omega, hR.mono ?_⟩
      rintro e W3 (⟨rfl, hJ3, hk3⟩ | ⟨rfl, hJx3⟩)
      · have hP3 : Blk W3 bp 9 #[.string ⟨#[47]⟩] := (hk3.block bp (.inl rfl)).trans hP
        have hS3 : Blk W3 bs 9 #[.string X] := (hk3.block bs (.inr (.inl rfl))).trans hS
        have hV3 : Blk W3 bv 3 #[.int .i64 0] := (hk3.block bv (.inr (.inr rfl))).trans hV
        have q1 := hP3.cell 0
        have q2 := hS3.cell 0
        have q4 := hS3.frozen 0
        simp at q1 q2
        have HH := Lib.hid (And.intro hP3 (And.intro hS3 (And.intro hV3 hk3.size))); clear hP3 hS3 hV3 hk3
        have HJ3 := Lib.hid hJ3; clear hJ3
        gi_wp2
        go_roundw
        case rel =>
          refine ⟨_, pre ++ [⟨X.extract 0 i, hz1⟩], hz2, HH.out.1.far (p := ⟨bs, 0, none⟩) hne _, HH.out.2.1.put 0 _, HH.out.2.2.1.far (p := ⟨bs, 0, none⟩) hvs _, ?_, ?_, ?_⟩
          · rw [List.map_append, List.append_assoc]
            exact HP.out
          · exact HJ.out _ W3 _ (some bs) HJ3.out (grown_put (grown_refl _ _) 0 _) (fun r e => .inl (by cases e; rfl))
          · have := HH.out.2.2.2
            simp [World.setCell]
            omega
        case measure =>
          have e1 := (HH.out.2.1.put 0 (.string (X.extract (i + 1) X.size))).cell 0
          have e2 := hS.cell 0
          simp at e1 e2
          rw [e1, e2]
          exact hz3
      · gi_wp2
        refine bodyPost_ret (results_none rfl _ _ _) rfl ?_
        refine ⟨⟨_, rfl⟩, .inr ⟨_, ⟨spS (X.extract (i + 1) X.size), ?_⟩, hJx3⟩⟩
        rw [List.map_append, List.append_assoc]
        exact HP.out.symm
end Go.Proofs.YtnpehjgnplaabaaGreatDoor
