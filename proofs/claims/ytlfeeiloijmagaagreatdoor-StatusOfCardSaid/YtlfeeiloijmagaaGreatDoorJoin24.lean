/- Several texts, joined for the limit of sixty files; each one opens with its own comment. -/
import Derived.Test.YtlfeeiloijmagaaGreatDoorJoin23
import Derived.Test.YtlfeeiloijmagaaGreatDoorJoin13
import Derived.RangeFuncBound
import Derived.Test.YtlfeeiloijmagaaGreatDoorJoin22
import Derived.Test.YtlfeeiloijmagaaGreatDoorJoin20
/- sorted.Map[string,bool]: Get, Put. -/
set_option linter.unusedVariables false
set_option linter.unusedSimpArgs false
namespace Go.Proofs.YtlfeeiloijmagaaGreatDoor
open Go Go.RowKit
open Sw
set_option maxRecDepth 100000 in
set_option maxHeartbeats 4000000 in
theorem srtPutSB_any (w : World) (bm : Nat) (xs : List (ByteArray × Bool)) (k : ByteArray) (v : Bool) (h : SMapSB w bm xs) (hn : xs.length + 1 ≤ 1000000) (hk : okS k) :
    Calls Tryz.prog 67 #[.pointer (some ⟨bm, 0, none⟩), Value.string k, (Value.bool) v] w fun e w' => e = .returned (.bool (!inN ordS k xs)) ∧ SMapSB w' bm (putN ordS k v xs) ∧ w.grownBy w' (some bm) := by
  have HS := Lib.hid (srtFindSB_any w bm xs k h (by omega) hk)
  have HM := Lib.hid h
  have hle := lbN_le (c := ordS) k xs
  cases hin : inN ordS k xs with
  | false =>
    have hd := put_miss k v xs hin
    have hln := put_len (c := ordS) k v xs
    rw [hin, if_neg (by simp)] at hln
    unfold FindPostSB at HS
    rw [hin] at HS
    obtain ⟨i, hi⟩ : ∃ i, lbN ordS k xs = i := ⟨_, rfl⟩
    rw [hi] at HS hle hd
    have HD := Lib.hid (And.intro hd hln); clear hd hln hin hi h
    go_enter Tryz.func67, Tryz.ntmps67
    go_wp2_with fail
    refine HS.out.mono ?_
    rintro e w1 ⟨rfl, hb1⟩
    obtain ⟨u, hb, ho⟩ := (HM.out.below hb1).row
    obtain ⟨A, c, rfl, _, _, _⟩ := SlV.of_own ho eCSB_len (by decide)
    have hv1 : w1.cell? ⟨bm, 1, none⟩ = some (.slice A xs.length c) := hb.cell 1
    have HC := Lib.hid (slCloneSB_any eCSB eCSB_len eCSB_one w1 _ xs (SlV.of_own ho eCSB_len (by decide)) (by omega))
    have HB := Lib.hid hb; clear hb ho
    have hb1S := hb1.size
    have HB1 := Lib.hid hb1; clear hb1
    go_wp2_with fail
    refine HC.out.mono ?_
    rintro e w2 ⟨v2, rfl, ho2, hb2⟩
    obtain ⟨A2, c2, hv2, _, _, _⟩ := SlV_of_any ho2
    have hba : Below w2.heap.size w2 (w2.alloc (.cells (eCSB (k, v)).toArray 158)) := (Below.refl _ _).alloc (Nat.le_refl _) _
    have hlt2 := hb2.size
    have hown1 := own_kept ho2 hba
    have hbk := Blk.new w2 158 (eCSB (k, v)).toArray
    have HI := Lib.hid (slInsertSB_any (w2.alloc (.cells (eCSB (k, v)).toArray 158)) w1.heap.size v2 xs.length i w2.heap.size (xs.flatMap eCSB) 158 (eCSB (k, v)).toArray hown1 (flat1SB xs) hbk (own_ne ho2 _ (Nat.le_refl _)) rfl (by simpa using eCSB_one (k, v)) hle hn (by simp; omega))
    have HFin := Lib.hid (fun (v3 : Value) (w3 : World) (ho3 : w3.ownsRow w1.heap.size 158 2 v3 (xs.length + 1) ((xs.flatMap eCSB).take (i * 2) ++ (eCSB (k, v)) ++ (xs.flatMap eCSB).drop (i * 2))) (hbx : Blk w3 bm 153 #[ordFSB, .slice A xs.length c]) => (by
      have hd := HD.out.1
      have hxs : (xs.flatMap eCSB).take (i * 2) ++ (eCSB (k, v)) ++ (xs.flatMap eCSB).drop (i * 2) = (putN ordS k v xs).flatMap eCSB := by rw [hd, List.flatMap_append, List.flatMap_cons, flat_take eCSB_len, flat_drop eCSB_len, List.append_assoc]
      rw [hxs, ← HD.out.2] at ho3
      exact ⟨⟨v3, hbx.put 1 v3, own_wide (own_grown_typSB ho3 (grown_put (grown_refl w3 (some bm)) 1 v3) hbx (by decide)) (Nat.zero_le _)⟩, put_up ordS_ord k v xs HM.out.up, fun e he => by
        rcases put_mem k v xs e he with rfl | he
        · exact hk
        · exact HM.out.ok e he⟩ : SMapSB (w3.setCell ⟨bm, 1, none⟩ v3) bm (putN ordS k v xs)))
    have HG := Lib.hid (fun (v3 : Value) (w3 : World) (hg3 : (w2.alloc (.cells (eCSB (k, v)).toArray 158)).grownBy w3 v2.ownBlock) => (by
      have h1 := grown_below (row := some bm) HB1.out
      have hb2a := hb2.trans (hba.mono hb2.size)
      have h2 := grown_trans h1 ⟨hb2a.os, hb2a.tape, hb2a.output, hb2a.size, fun k hk _ => hb2a.block k hk⟩
      have h3 := grown_sub h2 hg3 (fun k hk => by have := (ho2.lt k hk).1; omega)
      exact ⟨grown_put h3 1 v3, (HB.out.below hb2a HB.out.lt).grown hg3 (fun e => by have := (ho2.lt bm e.symm).1; have := HB.out.lt; omega)⟩ : w.grownBy (w3.setCell ⟨bm, 1, none⟩ v3) (some bm) ∧ Blk w3 bm 153 #[ordFSB, .slice A xs.length c]))
    clear HC ho2 hb2 hba hown1 hbk
    subst hv2
    unfold InsPostSB at HI
    generalize hrw : Value.ownBlock _ = rw2 at *
    clear hrw
    simp only [eCSB, List.toList_toArray] at HI HFin HG
    go_wp2_with fail
    refine HI.out.mono ?_
    rintro e w3 ⟨g3, cap3, rfl, ho3, hg3, hr3⟩
    obtain ⟨hgf, hbx⟩ := HG.out (.slice (some ⟨g3, 0, none⟩) (xs.length + 1) cap3) w3 hg3
    have hF := HFin.out _ w3 ho3 hbx
    have hc1 : w3.cell? ⟨bm, 1, none⟩ = some (.slice A xs.length c) := hbx.cell 1
    have hf1 := hbx.frozen 1
    have HZ := Lib.hid (And.intro hF hgf); clear hF hgf hbx ho3 hg3 hr3
    go_wp2_with fail
    go_ret
    exact ⟨rfl, HZ.out.1, HZ.out.2⟩
  | true =>
    have hlt := inN_lt ordS_ord hin
    have hd := put_hit k v xs hin
    have hkk : ordS (xs[lbN ordS k xs]).1 k = 0 := by
      have := inN_at ordS_ord (k := k) hlt
      rw [hin] at this
      exact of_decide_eq_true this.symm
    have hkx : ∀ (j : Nat) (hj : j < xs.length), j = lbN ordS k xs → (xs[j]).1 = k := by
      intro j hj e
      subst e
      exact ordS_ord.zero _ _ hkk
    unfold FindPostSB at HS
    rw [hin] at HS
    obtain ⟨i, hi⟩ : ∃ i, lbN ordS k xs = i := ⟨_, rfl⟩
    rw [hi] at HS hlt hd
    have hkx2 := hkx i hlt hi.symm
    have HD := Lib.hid (And.intro hd hkx2); clear hkx2 hd hin hi h hle hkk hkx
    go_enter Tryz.func67, Tryz.ntmps67
    go_wp2_with fail
    refine HS.out.mono ?_
    rintro e w1 ⟨rfl, hb1⟩
    obtain ⟨u, hb, ho⟩ := (HM.out.below hb1).row
    obtain ⟨A, c, rfl, _, _, _⟩ := SlV.of_own ho eCSB_len (by decide)
    have hv1 : w1.cell? ⟨bm, 1, none⟩ = some (.slice A xs.length c) := hb.cell 1
    have HC := Lib.hid (slCloneSB_any eCSB eCSB_len eCSB_one w1 _ xs (SlV.of_own ho eCSB_len (by decide)) (by omega))
    have HB := Lib.hid hb; clear hb ho
    have hb1S := hb1.size
    have HB1 := Lib.hid hb1; clear hb1
    go_wp2_with fail
    refine HC.out.mono ?_
    rintro e w2 ⟨v2, rfl, ho2, hb2⟩
    obtain ⟨g, cap, cur, rfl, hbg, hg, hnc, hcm, hcs, htk⟩ := own_form ho2 (by omega)
    have hgl := hg.lt
    have hst := own_setCells [.bool v] (i * 2 + 1) w2 _ ho2 (by simp; omega)
    have hgr := grown_setCells (a := w2) (g := g) [.bool v] (i * 2 + 1) w2 (grown_refl _ _)
    have hfl := flat_put eCSB_len xs i hlt (k, v) 1 [.bool v] (by simp) (by simp [eCSB, HD.out.2])
    rw [hfl, ← HD.out.1] at hst
    have hl : (putN ordS k v xs).length = xs.length := by rw [HD.out.1, List.length_set]
    rw [← hl] at hst
    have hbx : Blk (w2.setCells g (i * 2 + 1) [.bool v]) bm 153 #[ordFSB, .slice A xs.length c] := (HB.out.below hb2 HB.out.lt).grown hgr (fun e => by have := HB.out.lt; cases e; omega)
    have hF : SMapSB ((w2.setCells g (i * 2 + 1) [.bool v]).setCell ⟨bm, 1, none⟩ (.slice (some ⟨g, 0, none⟩) (putN ordS k v xs).length cap)) bm (putN ordS k v xs) :=
      ⟨⟨_, hbx.put 1 _, own_wide (own_grown_typSB hst (grown_put (grown_refl _ (some bm)) 1 _) hbx (by decide)) (Nat.zero_le _)⟩, put_up ordS_ord k v xs HM.out.up, fun e he => by
        rcases put_mem k v xs e he with rfl | he
        · exact hk
        · exact HM.out.ok e he⟩
    have hGf : w.grownBy ((w2.setCells g (i * 2 + 1) [.bool v]).setCell ⟨bm, 1, none⟩ (.slice (some ⟨g, 0, none⟩) (putN ordS k v xs).length cap)) (some bm) := by
      have h1 := grown_below (row := some bm) HB1.out
      have h2 := grown_trans h1 ⟨hb2.os, hb2.tape, hb2.output, hb2.size, fun k hk _ => hb2.block k hk⟩
      exact grown_put (grown_sub h2 hgr (fun k hk => by cases hk; omega)) 1 _
    rw [hl] at hF hGf
    have hx0 : ∀ j, j < cap * 2 → (w2.cell? ⟨g, j, none⟩).isSome = true := fun j hj => by
      rw [hg.cell, Array.getElem?_eq_getElem (by omega)]; rfl
    have hil : i * 2 + 1 < cap * 2 := by omega
    obtain ⟨old, hold⟩ := Option.isSome_iff_exists.1 (hx0 (i * 2 + 1) hil)
    have hfz := hg.frozen (i * 2 + 1)
    have hbc1 : w2.cell? ⟨bm, 1, none⟩ = some (.slice A xs.length c) := (HB.out.below hb2 HB.out.lt).cell 1
    have hbf1 := (HB.out.below hb2 HB.out.lt).frozen 1
    have hne1 : bm ≠ g := fun e => by have := HB.out.lt; omega
    have hc3 : (w2.setCell ⟨g, i * 2 + 1, none⟩ (Value.bool v)).cell? ⟨bm, 1, none⟩ = some (.slice A xs.length c) := (World.cell?_setCell_other w2 _ _ _ (by intro e; exact hne1 (congrArg Addr.block e).symm)).trans hbc1
    have hf3 : (w2.setCell ⟨g, i * 2 + 1, none⟩ (Value.bool v)).frozen? ⟨bm, 1, none⟩ = false := by
      rw [World.frozen?_setCell]; exact hbf1
    have HZ := Lib.hid (And.intro hF hGf); clear hF hGf hbx hst hgr hfl hl hx0 hg htk ho2 hb2 hnc hcs hcm
    have hi2 : (i : Int) < xs.length := by omega
    go_wp2_with fail
    go_ret
    exact ⟨rfl, HZ.out.1, HZ.out.2⟩
end Go.Proofs.YtlfeeiloijmagaaGreatDoor
/- A range over a function inside an iterator: as RangeTell's law; only the loop's own record is turned, and the body and the end know where it lies. Over any program. -/
set_option linter.unusedVariables false
set_option linter.unusedSimpArgs false
namespace Sw
open Go Go.RowKit
variable {F : Fence} {n : Nat} {P : Program}
/-- what is said bears that the iterator turns its own blocks, or new things that are no cells -/
def AbN {β : Type} (Mine : Nat → Prop) (B : Nat) (J : β → World → Prop) : Prop :=
  ∀ s W W' row, J s W → W.grownBy W' row → (∀ r, row = some r → Mine r ∨ (B ≤ r ∧ ∃ o : Obj, W.heap[r]? = some o ∧ o.isCells = false)) → J s W'
theorem AbN.abM {β : Type} {Mine : Nat → Prop} {B : Nat} {J : β → World → Prop} (h : AbN Mine B J) : AbM Mine B J := fun s W W' row hs hg hr => h s W W' row hs hg (fun r e => by
  rcases hr r e with h1 | ⟨h1, o, ho, hw⟩
  · exact .inl h1
  · exact .inr ⟨h1, o, ho, Obj.not_cells_of_walk hw⟩)
/-- an iterator's contract, where it may range over another one -/
def SeqNest {α : Type} (Mine : Nat → Prop) (F : Fence) (n : Nat) (P : Program) (g : Nat) (lb : Array Value) (encs : α → Array Value) (Kp : World → World → Prop) (S Sp Tell : List α → Prop) (w : World) : Prop :=
  ∀ (l : Nat) (J Jx : List α → World → Prop) (W : World), Below w.heap.size w W → AbN Mine W.heap.size J → AbN Mine W.heap.size Jx →
    (∀ pre x W1, J pre W1 → Tell (pre ++ [x]) → YieldAt F (n - 1) P l (encs x) W1 fun e W' =>
      (e = .returned (.bool true) ∧ J (pre ++ [x]) W' ∧ Kp W1 W') ∨ (e = .returned (.bool false) ∧ Jx (pre ++ [x]) W' ∧ ∀ (k : Nat) ds, W1.heap[k]? = some (Obj.deferred ds) → W'.heap[k]? = some (Obj.deferred ds))) →
    J [] W →
    CallsIn F n P g (#[.func (.yield l) #[] #[]] ++ lb) W fun e W' => (∃ v, e = .returned v) ∧ ((∃ xs, S xs ∧ J xs W') ∨ (∃ pre, Sp pre ∧ Jx pre W'))
theorem wpIn_rangeFunc_nest {α : Type} {g : Operand} {ps : Array Tmp} {assign body : Code} {Q : Exit → Act → World → Prop} {a : Act} {w : World} {Mine : Nat → Prop} (hM : ∀ r, Mine r → r < w.heap.size)
    (hro : F.round = none) (h1 : 1 ≤ n) {gf : Nat} {lb : Array Value} (hg : a.eval g = .func (.func gf) #[] lb) (hFg : F.fn gf) (eg : ∀ args w, (callFunc gf args).run P w = .ok (.enter gf args) w)
    {encs : α → Array Value} {Kp : World → World → Prop} {S Sp Tell : List α → Prop} {w0 : World} (hseq : SeqNest Mine F (n - 1) P gf lb encs Kp S Sp Tell w0)
    (hKt : ∀ {A B C : World}, Kp A B → Kp B C → Kp A C) (hKb : ∀ (W : World) (l : Nat) (o o' : Loop), w.heap.size ≤ l → W.heap[l]? = some (.loop o) → Kp W (W.putObj l (.loop o'))) (hb0 : Below w0.heap.size w0 w) (hps : ∀ x, (encs x).size = ps.size)
    (I : List α → World → Prop) (Ix : Code → List α → World → Prop) (hI : OwnM Mine w.heap.size I) (hIx : ∀ c, OwnM Mine w.heap.size (Ix c)) (h0 : I [] w) (a₁ : α → Act)
    (hassign : ∀ (l : Nat) (x : α) (W : World) (K : Act → World → Prop), K (a₁ x) W →
      assign.wpIn (F.inRound l) (n - 1 - 1) P (Exit.then K (fun _ _ _ => False)) { tmps := (ps.zip (encs x)).foldl (fun t (p, v) => t.setIfInBounds p v) a.tmps, defers := [] } W)
    (hbody : ∀ (l : Nat) (pre : List α) (x : α) (W : World), I pre W → Tell (pre ++ [x]) → w.heap.size + 1 < W.heap.size → body.wpIn (F.inRound l) (n - 1 - 1) P (ownPostK Kp I Ix (pre ++ [x]) W) (a₁ x) W)
    (hdone : ∀ (D : Nat) (xs : List α) (W : World), D = w.heap.size → S xs → I xs W → W.heap[D]? = some (.deferred (some [])) → Q .normal { a with defers := { target := .collected D, args := #[] } :: a.defers } W)
    (hstop : ∀ (D : Nat) (c : Code) (pre : List α) (W : World), D = w.heap.size → Sp pre → Ix c pre W → W.heap[D]? = some (.deferred (some [])) → c.wpIn F n P Q { a with defers := { target := .collected D, args := #[] } :: a.defers } W) :
    (Code.rangeFunc g ps assign body).wpIn F n P Q a w := by
  refine wpIn_rangeFunc fun fn hfn => ?_
  rw [hro]
  obtain ⟨D, hD⟩ : ∃ D, D = w.heap.size := ⟨_, rfl⟩
  obtain ⟨R, hR⟩ : ∃ R : LoopState → Option Code → Loop, R = fun st pe => { state := st, pending := pe, fn, tmps := a.tmps, params := ps, assign, body, defers := w.heap.size } := ⟨_, rfl⟩
  obtain ⟨W1, hW1⟩ : ∃ W1, (w.alloc (.deferred (some []))).alloc (.loop (R .ready none)) = W1 := ⟨_, rfl⟩
  have hs1 : W1.heap.size = D + 1 + 1 := by rw [← hW1, hD]; simp
  have hL1 : W1.heap[D + 1]? = some (.loop (R .ready none)) := by
    rw [← hW1, hD]
    have := World.alloc_heap_new (w.alloc (.deferred (some []))) (.loop (R .ready none))
    rwa [World.size_alloc] at this
  have hD1 : W1.heap[D]? = some (.deferred (some [])) := by
    rw [← hW1, hD]
    exact (Below.heap_alloc _ _ _ (by simp)).trans (World.alloc_heap_new w _)
  have hI1 : I [] W1 := by rw [← hW1]; exact hI.new _ (hI.new _ h0)
  have hb1 : Below w0.heap.size w0 W1 := by
    rw [← hW1]
    exact hb0.trans ((((Below.refl _ w).alloc (Nat.le_refl _) _).alloc (by simp) _).mono hb0.size)
  -- the loop's own record and its block lie where the iterator does not write
  have stays : ∀ {A B : World} {row : Option Nat} {k : Nat} {o : Obj}, D ≤ k → k ≤ D + 1 → A.heap[k]? = some o → A.grownBy B row → (∀ r, row = some r → Mine r ∨ (W1.heap.size ≤ r ∧ ∃ o : Obj, A.heap[r]? = some o ∧ o.isCells = false)) → B.heap[k]? = some o := by
    intro A B row k o hk hk2 ho hgr hr
    refine (hgr.block k (Array.getElem?_eq_some_iff.1 ho).1 (fun e => ?_)).trans ho
    rcases hr k e.symm with h | ⟨h, _⟩
    · have := hM k h; omega
    · omega
  have wide : ∀ {A : World} {row : Option Nat}, (∀ r, row = some r → Mine r ∨ (W1.heap.size ≤ r ∧ ∃ o : Obj, A.heap[r]? = some o ∧ o.isCells = false)) → (∀ r, row = some r → Mine r ∨ (w.heap.size ≤ r ∧ ∃ o : Obj, A.heap[r]? = some o ∧ o.isCells = false)) := by
    intro A row hr r e
    rcases hr r e with h | ⟨hB, o, ho, hw⟩
    · exact .inl h
    · exact .inr ⟨by omega, o, ho, hw⟩
  refine ⟨D + 1, [{ target := .collected D, args := #[] }], W1, { target := .fn (.func gf) lb, args := #[.func (.yield (D + 1)) #[] #[]] }, W1, gf, #[.func (.yield (D + 1)) #[] #[]] ++ lb, W1, ?_, ?_, ?_, ?_, fun _ => h1, ?_⟩
  · rw [← hW1, hR, hD]; exact run_enterLoop_outer _ _ _ _ _
  · simp only [resolve, hg]
    simp [go_sem]
  · intro f' hf'
    simp [Target.leads] at hf'
    subst hf'
    exact hFg
  · simp [invoke, go_sem, eg]
  refine (hseq (D + 1) (fun pre W => I pre W ∧ W.heap[D + 1]? = some (.loop (R .ready none)) ∧ W.heap[D]? = some (.deferred (some [])))
    (fun pre W => ∃ c, Ix c pre W ∧ W.heap[D + 1]? = some (.loop (R .done (some c))) ∧ W.heap[D]? = some (.deferred (some []))) W1 hb1
    (fun s A B row hs hgr hr => ⟨hI s A B row hs.1 hgr (wide hr), stays (by omega) (by omega) hs.2.1 hgr hr, stays (Nat.le_refl _) (by omega) hs.2.2 hgr hr⟩)
    (fun s A B row hs hgr hr => by
      obtain ⟨c, hc, hl, hk⟩ := hs
      exact ⟨c, hIx c s A B row hc hgr (wide hr), stays (by omega) (by omega) hl hgr hr, stays (Nat.le_refl _) (by omega) hk hgr hr⟩)
    ?_ ⟨hI1, hL1, hD1⟩).mono ?_
  · rintro pre x W ⟨hi, hl, hk⟩ hlen
    have hlt : D + 1 < W.heap.size := (Array.getElem?_eq_some_iff.1 hl).1
    obtain ⟨busy, hbusy⟩ : ∃ b : Loop, b = { R .ready none with state := .busy } := ⟨_, rfl⟩
    obtain ⟨W2, hW2⟩ : ∃ W2, W.putObj (D + 1) (.loop busy) = W2 := ⟨_, rfl⟩
    have hy := run_yield (P := P) (args := encs x) hl (by rw [hR]; exact hps x)
    rw [hR] at hy
    refine ⟨fn, _, assign, body, hy, roundIn_of_wpIn hfn (hassign _ x W _ ⟨W2, by rw [← hW2, hbusy]; exact run_beginRound hl (by rw [hR]), ?_⟩)⟩
    have hl2 : W2.heap[D + 1]? = some (.loop busy) := by rw [← hW2]; exact World.putObj_heap_same hlt
    have hk2 : W2.heap[D]? = some (.deferred (some [])) := by rw [← hW2]; exact (World.putObj_heap_other (by omega)).trans hk
    have hw2 : Kp W W2 := by rw [← hW2]; exact hKb _ _ _ _ (by omega) hl
    have hi2 : I pre W2 := by rw [← hW2]; exact hI.turn _ hi (by omega) hl rfl
    refine wpIn_mono (hbody _ pre x _ hi2 hlen (by rw [← hD]; exact (Array.getElem?_eq_some_iff.1 hl2).1)) ?_
    have fin : ∀ (jump : Option Code) (W3 : World), KeepsOthers W2 W3 → ∃ W4, W3.putObj (D + 1) (.loop (R (if jump.isNone then .ready else .done) jump)) = W4 ∧
        (Instr.endRound (D + 1) jump).run P W3 = .ok (.bool jump.isNone) W4 ∧ W3.heap[D + 1]? = some (.loop busy) ∧
        W4.heap[D + 1]? = some (.loop (R (if jump.isNone then .ready else .done) jump)) ∧ W4.heap[D]? = some (.deferred (some [])) := fun jump W3 hk3 => by
      have hl3 := hk3.same _ _ hl2 rfl
      have := run_endRound (P := P) jump hl3
      rw [hbusy, hR] at this
      refine ⟨_, rfl, ?_, hl3, World.putObj_heap_same (Array.getElem?_eq_some_iff.1 hl3).1, (World.putObj_heap_other (by omega)).trans (hk3.same _ _ hk2 rfl)⟩
      rw [hR]
      exact this
    rintro e a3 W3 hp
    have out : ∀ c, KeepsOthers W2 W3 → Ix c (pre ++ [x]) W3 → ∃ v W4, (Instr.endRound (D + 1) (some c)).run P W3 = .ok v W4 ∧ Ending.returned v = .returned (.bool false) ∧ (Ix c (pre ++ [x]) W4 ∧ W4.heap[D + 1]? = some (.loop (R .done (some c))) ∧ W4.heap[D]? = some (.deferred (some []))) ∧ ∀ (k : Nat) ds, W.heap[k]? = some (Obj.deferred ds) → W4.heap[k]? = some (Obj.deferred ds) := fun c hk3 hi3 => by
      obtain ⟨W4, hW4, hr, hl3, hl4, hk4⟩ := fin (some c) W3 hk3
      exact ⟨_, W4, hr, rfl, ⟨by rw [← hW4]; exact (hIx c).turn _ hi3 (by omega) hl3 rfl, hl4, hk4⟩, fun k ds hkd => (by
        have hne : k ≠ D + 1 := fun e' => by subst e'; rw [hl] at hkd; cases hkd
        have h2 : W2.heap[k]? = some (Obj.deferred ds) := by rw [← hW2]; exact (World.putObj_heap_other hne).trans hkd
        rw [← hW4]
        exact (World.putObj_heap_other hne).trans (hk3.same k _ h2 rfl))⟩
    cases e with
    | normal =>
      obtain ⟨hk3, hkp3, hi3⟩ := hp
      obtain ⟨W4, hW4, hr, hl3, hl4, hk4⟩ := fin none W3 hk3
      refine ⟨_, W4, hr, .inl ⟨rfl, ⟨?_, hl4, hk4⟩, ?_⟩⟩
      · rw [← hW4]; exact hI.turn _ hi3 (by omega) hl3 rfl
      · rw [← hW4]; exact hKt (hKt hw2 hkp3) (hKb _ _ _ _ (by omega) hl3)
    | ret =>
      obtain ⟨v, W4, hr, hv, h4⟩ := out .ret hp.1 hp.2
      exact ⟨v, W4, hr, .inr ⟨hv, ⟨.ret, h4.1⟩, h4.2⟩⟩
    | exit id =>
      obtain ⟨v, W4, hr, hv, h4⟩ := out (.exit id) hp.1 hp.2
      exact ⟨v, W4, hr, .inr ⟨hv, ⟨.exit id, h4.1⟩, h4.2⟩⟩
    | goto t =>
      obtain ⟨v, W4, hr, hv, h4⟩ := out (.goto t) hp.1 hp.2
      exact ⟨v, W4, hr, .inr ⟨hv, ⟨.goto t, h4.1⟩, h4.2⟩⟩
    | panic ch => exact hp.elim
    | outgrown => exact hp.elim
  · rintro e W2 ⟨⟨v, rfl⟩, (⟨xs, hS, hi, hl, hk⟩ | ⟨pre, hSp, c, hi, hl, hk⟩)⟩
    · have hr := run_endLoop (P := P) hl (by rw [hR]; simp)
      rw [hR] at hr
      refine ⟨none, _, hr, ?_⟩
      exact hdone D xs _ hD hS (hI.turn _ hi (by omega) hl rfl) ((World.putObj_heap_other (by omega)).trans hk)
    · have hr := run_endLoop (P := P) hl (by rw [hR]; simp)
      rw [hR] at hr
      refine ⟨some c, _, hr, ?_⟩
      exact hstop D c pre _ hD hSp ((hIx c).turn _ hi (by omega) hl rfl) ((World.putObj_heap_other (by omega)).trans hk)
/-- blocks of type te, and what is put off, lie as they lay -/
structure KeepTy (te : TypeId) (A B : World) : Prop where
  size : A.heap.size ≤ B.heap.size
  row : ∀ g cs, Blk A g te cs → Blk B g te cs
  put : ∀ (k : Nat) ds, A.heap[k]? = some (Obj.deferred ds) → B.heap[k]? = some (Obj.deferred ds)
theorem KeepTy.trans {te : TypeId} {A B C : World} (h : KeepTy te A B) (k : KeepTy te B C) : KeepTy te A C := ⟨Nat.le_trans h.size k.size, fun g cs hg => k.row g cs (h.row g cs hg), fun q ds hq => k.put q ds (h.put q ds hq)⟩
theorem KeepTy.below {te : TypeId} {A B : World} (h : Below A.heap.size A B) : KeepTy te A B := ⟨h.size, fun g cs hg => hg.below h hg.lt, fun k ds hk => (h.block k (Array.getElem?_eq_some_iff.1 hk).1).trans hk⟩
theorem keepTy_b {te : TypeId} (W : World) (l : Nat) (o o' : Loop) (h : W.heap[l]? = some (.loop o)) : KeepTy te W (W.putObj l (.loop o')) := by
  have hg := grownBy_putObj' W l (.loop o')
  refine ⟨hg.size, fun g cs hB => hB.grown hg (fun e => ?_), fun k ds hk => ?_⟩
  · have e' : g = l := by simpa using e
    subst e'
    unfold Blk at hB
    rw [h] at hB
    cases hB
  · refine (hg.block k (Array.getElem?_eq_some_iff.1 hk).1 (fun e => ?_)).trans hk
    have e' : k = l := by simpa using e
    subst e'
    rw [h] at hk
    cases hk
theorem SeqTells.nest {α : Type} {Mine : Nat → Prop} {g : Nat} {lb : Array Value} {encs : α → Array Value} {Kp : World → World → Prop} {S Sp Tell : List α → Prop} {w : World} (h : SeqTells Mine F n P g lb encs Kp S Sp Tell w) : SeqNest Mine F n P g lb encs Kp S Sp Tell w :=
  fun l J Jx W hW hJ hJx hY h0 => h l J Jx W hW hJ.abM hJx.abM (fun pre x W1 h1 h2 => YieldAt.mono (hY pre x W1 h1 h2) fun e w2 he => by
    rcases he with he | he
    · exact .inl he
    · exact .inr ⟨he.1, he.2.1⟩) h0
end Sw
/- detect.Paths, at one tree and at two. -/
set_option linter.unusedVariables false
set_option linter.unusedSimpArgs false
namespace Go.Proofs.YtlfeeiloijmagaaGreatDoor
open Go Go.RowKit Go.Shelf
open Sw
attribute [local go_sem] Oper.semAt_some
theorem SMapSB.ownF {W W' : World} {row : Option Nat} {bm : Nat} {X : List SbE} (h : SMapSB W bm X) (hg : W.grownBy W' row) (hr : ∀ r, row = some r → ∃ o : Obj, W.heap[r]? = some o ∧ o.isCells = false) : SMapSB W' bm X := by
  obtain ⟨v, hb, ho⟩ := h.row
  exact ⟨⟨v, blk_ownF hb hg hr, own_ownF ho hg hr⟩, h.up, h.ok⟩
theorem smapSB_blk {w : World} {bm : Nat} {X : List SbE} (h : SMapSB w bm X) : ∃ cs, Blk w bm 153 cs := by
  obtain ⟨v, hb, _⟩ := h.row
  exact ⟨_, hb⟩
theorem TreeAt.grownSB {w w' : World} {bt bmt bm : Nat} {xs : List NE} {X : List SbE} (h : TreeAt w bt bmt xs) (hm : SMapSB w bm X) (hg : w.grownBy w' (some bm)) : TreeAt w' bt bmt xs := by
  obtain ⟨cs, hB⟩ := smapSB_blk hm
  obtain ⟨v, hb, ho⟩ := h.map.row
  exact ⟨h.box.grown hg (fun e => by have e' : bt = bm := by simpa using e
                                     subst e'; exact Blk.other h.box hB (by decide) rfl), h.map.grown hg (fun e => by subst e; exact Blk.other hb hB (by decide) rfl) hB (by decide)⟩
/-- the set of paths in its map, and the box of the map -/
def PthI (T bm : Nat) (X : List SbE) (W : World) : Prop := Blk W T 119 #[.pointer (some ⟨bm, 0, none⟩)] ∧ SMapSB W bm X
theorem PthI.below {T bm : Nat} {X : List SbE} {A B : World} (h : PthI T bm X A) (hb : Below A.heap.size A B) : PthI T bm X B := ⟨h.1.below hb h.1.lt, h.2.below hb⟩
theorem PthI.ownF {T bm : Nat} {X : List SbE} {A B : World} {row : Option Nat} (h : PthI T bm X A) (hg : A.grownBy B row) (hr : ∀ r, row = some r → ∃ o : Obj, A.heap[r]? = some o ∧ o.isCells = false) : PthI T bm X B := ⟨blk_ownF h.1 hg hr, h.2.ownF hg hr⟩
theorem PthI.put {T bm : Nat} {X Y : List SbE} {A B : World} (h : PthI T bm X A) (hm : SMapSB B bm Y) (hg : A.grownBy B (some bm)) : PthI T bm Y B := by
  obtain ⟨cs, hB⟩ := smapSB_blk h.2
  exact ⟨h.1.grown hg (fun e => by have e' : T = bm := by simpa using e
                                   subst e'; exact Blk.other h.1 hB (by decide) rfl), hm⟩
theorem setP_one (X : List SbE) (ps : List ByteArray) (p : ByteArray) : setP X (ps ++ [p]) = putN ordS p true (setP X ps) := by rw [setP_app]; rfl
/-- words of a tree put into the set -/
def PtI (T bm B : Nat) (X0 : List SbE) (D0 : List Nat) (gb : Nat) (v : Value) (xs : List NE) (pre : List NE) (W : World) : Prop :=
  (PthI T bm (setP X0 (pre.map Prod.fst)) W ∧ gb < W.heap.size) ∧ Blk W gb 104 #[v] ∧ Lies W 115 5 eCSN v xs
theorem PtI.own (T bm B : Nat) (X0 : List SbE) (D0 : List Nat) (gb : Nat) (v : Value) (xs : List NE) : Own (PtI T bm B X0 D0 gb v xs) := fun _ A C row hs hg hr => ⟨⟨hs.1.1.ownF hg hr, Nat.lt_of_lt_of_le hs.1.2 hg.size⟩, blk_ownF hs.2.1 hg hr, hs.2.2.ownF hg hr⟩
theorem ownFrom_put {β : Type} {B d : Nat} {o : Obj} (hd : d < B) : OwnFrom B (fun (_ : β) (W : World) => W.heap[d]? = some o) :=
  fun _ X Y row hs hg hr => (hg.block d (Array.getElem?_eq_some_iff.1 hs).1 (fun e => by have := (hr d e.symm).1; omega)).trans hs
set_option maxRecDepth 100000 in
set_option maxHeartbeats 8000000 in
theorem paths1_any (w : World) (u1 u2 : Value) (l1 l2 : List MkE) (gs : Nat) (ts : TypeId) (bt bmt : Nat) (xs : List NE) (h1 : SlV w 6 eCM u1 l1) (h2 : SlV w 6 eCM u2 l2) (hl1 : l1.length ≤ 1000) (hl2 : l2.length ≤ 1000) (hp1 : ∀ m ∈ l1, m.1.size ≤ 90000) (hp2 : ∀ m ∈ l2, m.1.size ≤ 90000)
    (hgs : Blk w gs ts #[.pointer (some ⟨bt, 0, none⟩)]) (hT : TreeAt w bt bmt xs) (hxl : xs.length ≤ 1000) (hxp : ∀ e ∈ xs, e.1.size ≤ 90000) :
    Calls Tryz.prog 44 #[.agg #[u1, u2], .slice (some ⟨gs, 0, none⟩) 1 1] w fun e w' => ∃ u, e = .returned u ∧ w'.ownsRow w.heap.size 9 1 u (pathsS ((l1 ++ l2).map Prod.fst ++ xs.map Prod.fst)).length ((pathsS ((l1 ++ l2).map Prod.fst ++ xs.map Prod.fst)).map Value.string) ∧ Below w.heap.size w w' := by
  refine callsIn_wide.1 (?_ : CallsIn Fence.wide 9 _ _ _ _ _)
  refine callsIn_of_wp_marks Tryz.func44 rfl trivial ?_ rfl
  simp only [Tryz.ntmps44, List.size_toArray, List.length_cons, List.length_nil, Nat.reduceAdd, Nat.reduceSub, Array.replicate_succ, Array.replicate_zero, List.push_toArray, List.append_toArray, List.nil_append, List.cons_append]
  have hb0 : Below w.heap.size w (w.alloc (.cells #[u1, u2] 24)) := (Below.refl _ w).alloc (Nat.le_refl _) _
  have hB0 := Blk.new w 24 #[u1, u2]
  obtain ⟨W0, hW0⟩ : ∃ W0, w.alloc (.cells #[u1, u2] 24) = W0 := ⟨_, rfl⟩
  rw [hW0] at hb0 hB0
  have HN := Lib.hid (srtNewSB_any W0)
  have H0 := Lib.hid (And.intro hb0 (And.intro hB0 (And.intro (h1.below hb0 (Nat.le_refl _)) (And.intro (h2.below hb0 (Nat.le_refl _)) (And.intro (hT.below hb0) (hgs.below hb0 hgs.lt))))))
  have HW := Lib.hid hW0
  have HX := Lib.hid (And.intro hp1 (And.intro hp2 hxp))
  have HGL := Lib.hid hgs.lt
  clear h1 h2 hb0 hB0 hT hgs hW0 hp1 hp2 hxp
  gi_wp2
  rw [HW.out]
  refine ⟨trivial, (callsIn_wide.2 HN.out).mono ?_⟩
  rintro e w1 ⟨bm, rfl, hm, hbm, hb1⟩
  have hba : Below w1.heap.size w1 (w1.alloc (.cells #[.pointer (some ⟨bm, 0, none⟩)] 119)) := (Below.refl _ w1).alloc (Nat.le_refl _) _
  have hb2 := hb1.trans (hba.mono hb1.size)
  have H1 := Lib.hid (And.intro (show PthI w1.heap.size bm [] _ from ⟨Blk.new w1 _ _, hm.below hba⟩) (And.intro (H0.out.1.trans (hb2.mono H0.out.1.size)) (And.intro (H0.out.2.1.below hb2 H0.out.2.1.lt) (And.intro (H0.out.2.2.1.below hb2 (Nat.le_refl _)) (And.intro (H0.out.2.2.2.1.below hb2 (Nat.le_refl _)) (And.intro (H0.out.2.2.2.2.1.below hb2) (H0.out.2.2.2.2.2.below hb2 H0.out.2.2.2.2.2.lt)))))))
  have HM := Lib.hid (show w.heap.size ≤ bm from Nat.le_trans H0.out.1.size hbm)
  have q2a := H1.out.2.2.1.cell 0
  have q2b := H1.out.2.2.1.cell 1
  simp only [List.getElem?_toArray, List.getElem?_cons_succ, List.getElem?_cons_zero] at q2a q2b
  obtain ⟨W1, hW1⟩ : ∃ W1, w1.alloc (.cells #[.pointer (some ⟨bm, 0, none⟩)] 119) = W1 := ⟨_, rfl⟩
  obtain ⟨T, hTe⟩ : ∃ T, w1.heap.size = T := ⟨_, rfl⟩
  rw [hW1, hTe] at H1
  have HW1 := Lib.hid (And.intro hW1 hTe)
  have HBO := Lib.hid (both_any W1 u1 u2 l1 l2 H1.out.2.2.2.1 H1.out.2.2.2.2.1 (by omega) (by omega) HX.out.1 HX.out.2.1)
  clear hba hb2 hb1 hbm hm hW1 hTe HN H0
  gi_wp2
  rw [HW1.out.1, HW1.out.2]
  clear q2a q2b HW1
  refine ⟨trivial, (callsIn_wide.2 HBO.out).mono ?_⟩
  rintro e w2 ⟨u, L, rfl, hPm, ho, hb2⟩
  obtain ⟨A3, k3, rfl, hk3, -, -⟩ := SlV_of_any ho
  have hLl : L.length = l1.length + l2.length := by rw [hPm.length_eq, List.length_append]
  have hLp : ∀ m ∈ L, m.1.size ≤ 90000 := fun m hm => (List.mem_append.1 (hPm.mem_iff.1 hm)).elim (HX.out.1 m) (HX.out.2.1 m)
  have H2 := Lib.hid (And.intro (H1.out.1.below hb2) (And.intro (H1.out.2.1.trans (hb2.mono H1.out.2.1.size)) (And.intro ho (And.intro (H1.out.2.2.2.2.2.1.below hb2) (H1.out.2.2.2.2.2.2.below hb2 H1.out.2.2.2.2.2.2.lt)))))
  have HL := Lib.hid (And.intro hPm hLp)
  obtain ⟨n, hn⟩ : ∃ n, L.length = n := ⟨_, rfl⟩
  rw [hn] at H2 hLl hk3
  rw [hn]
  have HN := Lib.hid hn
  clear hPm hLp ho hb2 hn HBO H1
  gi_wp2
  gi_loopw [15] (fun iv wr => ∃ i : Nat, iv = .int .i64 i ∧ i ≤ n ∧ PthI T bm (setP [] ((L.take i).map Prod.fst)) wr ∧ Below w.heap.size w wr ∧ wr.ownsRow W1.heap.size 74 6 (.slice A3 n k3) n (L.flatMap eCM) ∧ TreeAt wr bt bmt xs ∧ Blk wr gs ts #[.pointer (some ⟨bt, 0, none⟩)]) (fun iv _ => n - (intOf iv).toNat)
  case atStart => exact ⟨0, rfl, Nat.zero_le _, H2.out.1, H2.out.2.1, H2.out.2.2.1, H2.out.2.2.2.1, H2.out.2.2.2.2⟩
  case round =>
    obtain ⟨i, rfl, hi, hP, hb, ho, hT, hgs⟩ := hrel
    by_cases hlt : i < n
    · have hiL : i < L.length := by have := HN.out; omega
      have hsl := SlV.of_own (l := L) ho eCM_len (by decide)
      obtain ⟨A', c', hA, _, _, hso⟩ := hsl
      obtain ⟨rfl, rfl⟩ : A3 = A' ∧ k3 = c' := by injection hA with e1 e2 e3; exact ⟨e1, e3⟩
      clear hA
      obtain ⟨b, off, rfl, hbb, hcs⟩ := hso (by omega)
      have c0 := hcs i hiL 0 (by omega)
      have c1 := hcs i hiL 1 (by omega)
      have c2 := hcs i hiL 2 (by omega)
      have c3' := hcs i hiL 3 (by omega)
      have c4 := hcs i hiL 4 (by omega)
      have c5 := hcs i hiL 5 (by omega)
      simp only [eCM, List.getElem?_cons_succ, List.getElem?_cons_zero, Nat.add_zero] at c0 c1 c2 c3' c4 c5
      clear hcs hso
      have hi1 : (i : Int) < n := by omega
      have hq := HL.out.2 _ (List.getElem_mem hiL)
      have hst : setP [] ((L.take (i + 1)).map Prod.fst) = putN ordS L[i].1 true (setP [] ((L.take i).map Prod.fst)) := by
        rw [List.take_succ_eq_append_getElem hiL, List.map_append, List.map_cons, List.map_nil, setP_one]
      have hsl := setP_len ((L.take i).map Prod.fst) []
      rw [List.length_map, List.length_take] at hsl
      simp only [List.length_nil, Nat.zero_add] at hsl
      obtain ⟨⟨q, ⟨kd, md, tm, sz, sm⟩⟩, hx⟩ : ∃ x, L[i] = x := ⟨_, rfl⟩
      simp only [hx] at c0 c1 c2 c3' c4 c5 hq hst
      clear hx
      have hba := (Below.refl wr.heap.size wr).alloc (Nat.le_refl _) (.cells #[.string q, .int .i64 kd, .int .i64 md, .int .u32 tm, .int .i64 sz, .int .u32 sm] 74)
      have HPI := Lib.hid (hP.below hba)
      have q5 := HPI.out.1.cell 0
      simp only [List.getElem?_toArray, List.getElem?_cons_succ, List.getElem?_cons_zero] at q5
      have HPU := Lib.hid (srtPutSB_any _ bm _ q true HPI.out.2 (by omega) hq)
      have HR := Lib.hid (And.intro (hb.trans (hba.mono hb.size)) (And.intro (own_kept ho hba) (And.intro (hT.below hba) (And.intro (hgs.below hba hgs.lt) hst))))
      clear hP hb ho hT hgs hba hst hsl
      gi_wp2
      refine ⟨trivial, (callsIn_wide.2 HPU.out).mono ?_⟩
      rintro e w5 ⟨rfl, hm5, hg5⟩
      have H5 := Lib.hid (And.intro (HPI.out.put hm5 hg5) (And.intro (HR.out.1.grown hg5 HR.out.1.size (fun k hk => by cases hk; exact HM.out)) (And.intro (show w5.ownsRow W1.heap.size 74 6 _ n (L.flatMap eCM) from by
        obtain ⟨cs, hB⟩ := smapSB_blk HPI.out.2
        exact own_grown_typSB HR.out.2.1 hg5 hB (by decide)) (And.intro (HR.out.2.2.1.grownSB HPI.out.2 hg5) (HR.out.2.2.2.1.grown hg5 (fun e => by
          have e' : gs = bm := by simpa using e
          have := HGL.out
          have := HM.out
          omega))))))
      clear hm5 hg5 q5 HPU
      gi_wp2
      go_roundw
      case rel => exact ⟨i + 1, by go_num, by omega, by rw [HR.out.2.2.2.2]; exact H5.out.1, H5.out.2.1, H5.out.2.2.1, H5.out.2.2.2.1, H5.out.2.2.2.2⟩
      case measure => simp [intOf]; omega
    · obtain rfl : i = n := by omega
      have hf : L.take i = L := List.take_of_length_le (by have := HN.out; omega)
      rw [hf] at hP
      clear hf ho
      have HR := Lib.hid (And.intro hP (And.intro hb (And.intro hT hgs)))
      have q1 := hgs.cell 0
      simp at q1
      clear hP hb hT hgs H2
      gi_wp2
      refine wpIn_loop_rounds 2 ?_
      rw [roundsIn_succ]
      gi_wp2
      generalize wr = w4 at *
      refine ⟨trivial, (callsIn_wide.2 (treeAll_any w4 bt bmt xs HR.out.2.2.1)).mono ?_⟩
      rintro e w6 ⟨gb, v, rfl, hgb, hL, hge, hvb, hb6⟩
      have hP6 := HR.out.1.below hb6
      have hB6 := HR.out.2.1.trans (hb6.mono HR.out.2.1.size)
      have hgl := hgb.lt
      obtain ⟨cs0, hcs0⟩ := smapSB_blk hP6.2
      have hbmgb : bm ≠ gb := fun e => by subst e; exact Blk.other hcs0 hgb (by decide) rfl
      have hbmv : 0 < xs.length → ∀ g, v.ownBlock = some g → bm ≠ g := fun h0 g hg e => by
        subst e
        obtain ⟨A, c, rfl, _, _, h3⟩ := hL
        obtain ⟨g', off, cur, rfl, hb, _⟩ := h3 h0
        cases hg
        exact Blk.other hcs0 hb (by decide) rfl
      have HNE := Lib.hid (And.intro hbmgb hbmv)
      have hup := hP6.2.up
      have hz6 := hB6.size
      clear hbmgb hbmv hcs0 hb6 hge q1
      gi_wp2
      refine wpIn_rangeFunc_tell (Mine := fun _ => False) (fun _ h => h.elim) rfl (by omega) (gf := 149) (lb := #[.pointer (some ⟨gb, 0, none⟩)]) rfl trivial (enters_of Tryz.func149 (by kernel_rfl) rfl)
        (toldSN_tells 8 (by omega) gb v xs w6 hgb hL (by omega)) KeepIt.trans (keepIt_b hgl hvb) (Below.refl _ _) (fun _ => rfl)
        (fun pre W => PtI T bm 0 (setP [] (L.map Prod.fst)) [] gb v xs pre W ∧ Below w.heap.size w W)
        (fun c pre W => False)
        (OwnM.of_none (OwnFrom.and (Own.from (PtI.own T bm 0 (setP [] (L.map Prod.fst)) [] gb v xs) _) (ownFrom_below (Nat.le_refl _) (by omega))))
        (fun c => OwnM.of_none (fun _ _ _ _ hs _ _ => hs.elim))
        ⟨⟨⟨hP6, hgl⟩, hgb, hL⟩, hB6⟩
        ?a1 ?assign ?body ?done ?stop
      case assign =>
        rintro l x W K hK
        gi_wp2
        exact hK
      case body =>
        rintro l pre x W ⟨⟨⟨hP, hglW⟩, hgW, hLW⟩, hB⟩ hTl
        have hx0 : 0 < xs.length := by obtain ⟨r, hr⟩ := hTl; rw [← hr]; simp; omega
        have hpl : pre.length + 1 ≤ 1000 := by obtain ⟨r, hr⟩ := hTl; have := congrArg List.length hr; simp at this; omega
        have hxm : x ∈ xs := by obtain ⟨r, hr⟩ := hTl; rw [← hr]; simp
        have hq := HX.out.2.2 x hxm
        have q5 := hP.1.cell 0
        simp only [List.getElem?_toArray, List.getElem?_cons_succ, List.getElem?_cons_zero] at q5
        have hsl := setP_len (pre.map Prod.fst) (setP [] (L.map Prod.fst))
        have hsl0 := setP_len (L.map Prod.fst) []
        rw [List.length_map] at hsl hsl0
        simp only [List.length_nil, Nat.zero_add] at hsl0
        have hLn := HN.out
        have HPU := Lib.hid (srtPutSB_any W bm _ x.1 true hP.2 (by omega) hq)
        have HR2 := Lib.hid (And.intro hP (And.intro hgW (And.intro hLW hB)))
        clear hP hgW hLW hB hTl hsl hsl0 hLn
        obtain ⟨q, nd⟩ := x
        simp only at HPU hq ⊢
        gi_wp2
        refine ⟨trivial, (callsIn_wide.2 HPU.out).mono ?_⟩
        rintro e w7 ⟨rfl, hm7, hg7⟩
        have hBm : Blk W bm 153 (smapSB_blk HR2.out.1.2).choose := (smapSB_blk HR2.out.1.2).choose_spec
        have hko := keeps_grownF hg7 hBm
        have hgK : KeepIt gb v W w7 := ⟨hg7.size, hg7.block gb hglW (fun e => HNE.out.1 (by simpa using e.symm)), fun g hg => hg7.block g (by
          obtain ⟨A, c, rfl, _, _, h3⟩ := HR2.out.2.2.1
          obtain ⟨g', off, cur, rfl, hbq, _⟩ := h3 hx0
          cases hg
          exact hbq.lt) (fun e => HNE.out.2 hx0 g hg (by simpa using e.symm))⟩
        have HF := Lib.hid (And.intro hko (And.intro hgK (And.intro (HR2.out.1.put hm7 hg7) (HR2.out.2.2.2.grown hg7 (by have := HR2.out.2.2.2.size; omega) (fun k hk => by cases hk; exact HM.out)))))
        clear hm7 hg7 hko hgK hBm q5
        gi_wp2
        refine ⟨HF.out.1, HF.out.2.1, ⟨⟨?_, Nat.lt_of_lt_of_le hglW HF.out.1.size⟩, ?_, ?_⟩, HF.out.2.2.2⟩
        · rw [List.map_append, List.map_cons, List.map_nil, setP_one]; exact HF.out.2.2.1
        · have := HF.out.2.1.box
          have h2 := HR2.out.2.1
          unfold Blk at h2 ⊢
          rw [this, h2]
        · exact HR2.out.2.2.1.kept (fun g cur h _ => HF.out.2.1.row g h)
      case done =>
        rintro D zs W hD hzs ⟨⟨⟨hP, hglW⟩, hgW, hLW⟩, hB⟩ hK
        have hz : zs = xs := hzs
        subst hz
        rw [← setP_app] at hP
        have q5 := hP.1.cell 0
        simp only [List.getElem?_toArray, List.getElem?_cons_succ, List.getElem?_cons_zero] at q5
        have hsl := setP_len (L.map Prod.fst ++ zs.map Prod.fst) []
        rw [List.length_append, List.length_map, List.length_map] at hsl
        simp only [List.length_nil, Nat.zero_add] at hsl
        have hLn := HN.out
        have HKE := Lib.hid (keysSB_any W bm _ hP.2 (by omega))
        have HR3 := Lib.hid (And.intro hP (And.intro hB hK))
        clear hP hB hK hgW hLW hsl hLn
        gi_wp2
        rw [roundsIn_succ]
        gi_wp2
        refine ⟨trivial, (callsIn_wide.2 HKE.out).mono ?_⟩
        rintro e w8 ⟨u, rfl, ho8, hb8⟩
        have hK8 : w8.heap[D]? = some (Obj.deferred (some [])) := (hb8.block D (Array.getElem?_eq_some_iff.1 HR3.out.2.2).1).trans HR3.out.2.2
        have hD' : w.heap.size ≤ D := by omega
        have hpe : (setP [] (L.map Prod.fst ++ zs.map Prod.fst)).map Prod.fst = pathsS ((l1 ++ l2).map Prod.fst ++ zs.map Prod.fst) :=
          (pathsS_eq (pathsS_rise _) (fun q => by
            rw [pathsS_mem]
            simp only [List.mem_append, List.mem_map, HL.out.1.mem_iff]))
        have hB8 := HR3.out.2.1.trans (hb8.mono HR3.out.2.1.size)
        have HF := Lib.hid (And.intro (own_wide ho8 HR3.out.2.1.size : w8.ownsRow w.heap.size _ _ _ _ _) (And.intro hB8 hpe))
        clear ho8 hb8 hpe hB8 q5
        gi_wp2
        refine ⟨by simp, .inl ⟨_, _, rfl, run_takeDeferred hK8, ?_⟩⟩
        refine ⟨_, results_tmp rfl _ _ _, ⟨u, rfl, ?_, ?_⟩⟩
        · have h1 := own_ownF HF.out.1 (grownBy_putObj' w8 D (.deferred none)) (fun r e => show ∃ o : Obj, w8.heap[r]? = some o ∧ o.isCells = false from (by cases (e : some D = some r); exact ⟨_, hK8, rfl⟩))
          rw [← HF.out.2.2, List.length_map, List.map_map]
          exact h1
        · exact HF.out.2.1.trans (belowK_b (w := w) (Nat.le_refl _) w8 D _ (.deferred none) hD' hK8 rfl rfl)
      case stop =>
        rintro D c pre W hD hSp h
        exact h.elim
end Go.Proofs.YtlfeeiloijmagaaGreatDoor
