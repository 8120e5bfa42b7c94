/- Several texts, joined for the limit of sixty files; each one opens with its own comment. -/
import Derived.Test.YtlogdionhgabdaaDoorJoin28
/- stat.Total. -/
set_option linter.unusedVariables false
set_option linter.unusedSimpArgs false
namespace Go.Proofs.YtlogdionhgabdaaDoor
open Go Go.RowKit Go.Shelf
open Sw
attribute [local go_sem] Oper.semAt_some
theorem res_cellI {P : Program} {fn : Func} {p : Tmp} {ty : TypeId} (h : fn.results = #[.cell p ty]) (tmps : Array Value) (w : World) (g : Nat) (t : TypeId) (v : Value)
    (hp : tmps.getD p undef = .pointer (some ⟨g, 0, none⟩)) (hg : Blk w g t #[v]) (hu : P.underlying ty = some (.int .i64)) : (results fn tmps).run P w = .ok v w := by
  have hp' : tmps[p]?.getD undef = .pointer (some ⟨g, 0, none⟩) := by simpa using hp
  have hc : w.cell? ⟨g, 0, none⟩ = some v := by have := hg.cell 0; simpa using this
  simp [results, h, hp', asAddr, loadVar, isAgg, run_underlying hu, run_load, hc]
/-- all counts together -/
def sumN (xs : List (Int × Int)) : Int := (xs.map Prod.snd).sum
theorem sumN_app (a b : List (Int × Int)) : sumN (a ++ b) = sumN a + sumN b := by unfold sumN; rw [List.map_append, List.sum_append]
theorem sumN_one (x : Int × Int) : sumN [x] = x.2 := by unfold sumN; simp
theorem sumN_nonneg : ∀ (a : List (Int × Int)), (∀ e ∈ a, 0 ≤ e.2) → 0 ≤ sumN a
  | [], _ => by unfold sumN; simp
  | x :: a, h => by
    have h1 := sumN_nonneg a (fun e he => h e (List.mem_cons_of_mem _ he))
    have h2 := h x (List.mem_cons_self ..)
    have : sumN (x :: a) = x.2 + sumN a := by unfold sumN; simp
    omega
theorem sumN_pre {a xs : List (Int × Int)} (h : a <+: xs) (h0 : ∀ e ∈ xs, 0 ≤ e.2) : 0 ≤ sumN a ∧ sumN a ≤ sumN xs := by
  obtain ⟨r, rfl⟩ := h
  rw [sumN_app]
  have h1 := sumN_nonneg a (fun e he => h0 e (List.mem_append_left _ he))
  have h2 := sumN_nonneg r (fun e he => h0 e (List.mem_append_right _ he))
  omega
def SuI (T : Nat) (pre : List (Int × Int)) (W : World) : Prop := Blk W T 3 #[.int .i64 (sumN pre)]
theorem SuI.own (T : Nat) : Own (SuI T) := fun _ A B row hs hg hr => blk_ownF hs hg hr
set_option maxRecDepth 100000 in
set_option maxHeartbeats 4000000 in
theorem statTotal_any (w : World) (tb bm : Nat) (xs : List (Int × Int)) (h : Tly w tb bm xs) (hn : xs.length ≤ 1000000) (h0 : ∀ e ∈ xs, 0 ≤ e.2) (hby : sumN xs ≤ 1000000000000000) :
    Calls Tryd.prog 13 #[.pointer (some ⟨tb, 0, none⟩)] w fun e w' => e = .returned (.int .i64 (sumN xs)) ∧ Below w.heap.size w w' := by
  have b0 := Blk.new w 3 #[.int .i64 0]
  have hB : Below w.heap.size w (w.alloc (.cells #[.int .i64 0] 3)) := (Below.refl _ w).alloc (Nat.le_refl _) _
  have hT := h.below hB
  clear h
  refine callsIn_wide.1 (?_ : CallsIn Fence.wide 9 _ _ _ _ _)
  refine callsIn_of_wp_marks Tryd.func13 rfl trivial ?_ rfl
  simp only [Tryd.ntmps13, List.size_toArray, List.length_cons, List.length_nil, Nat.reduceAdd, Nat.reduceSub, Array.replicate_succ, Array.replicate_zero, List.push_toArray, List.append_toArray, List.nil_append, List.cons_append]
  have H0 := Lib.hid (And.intro b0 (And.intro hB hT)); clear b0 hB hT
  have HP := Lib.hid h0; clear h0
  gi_wp2
  obtain ⟨w1, hw1⟩ : ∃ w1, w.alloc (.cells #[.int .i64 0] 3) = w1 := ⟨_, rfl⟩
  rw [hw1] at H0
  rw [hw1]
  clear hw1
  refine ⟨trivial, (callsIn_wide.2 (statAll_any w1 tb bm xs H0.out.2.2)).mono ?_⟩
  rintro e w2 ⟨gb, v, rfl, hgb, hL, hge, hvb, hb2⟩
  have B0 := H0.out.1.below hb2 H0.out.1.lt
  have hTgb : w.heap.size ≠ gb := by have := H0.out.1.lt; omega
  have hTv : 0 < xs.length → ∀ g, v.ownBlock = some g → w.heap.size ≠ g := fun h0 g hg => by
    obtain ⟨A, c, rfl, _, _, h3⟩ := hL
    obtain ⟨g', off, cur, rfl, hb, _⟩ := h3 h0
    cases hg
    exact Blk.other B0 hb (by decide)
  have HNE := Lib.hid (And.intro hTgb hTv); clear hTgb hTv
  have hBw := H0.out.2.1.trans (hb2.mono H0.out.2.1.size)
  have hz2 : w.heap.size < w2.heap.size := B0.lt
  clear hb2 hge
  gi_wp2
  obtain ⟨T, hTe⟩ : ∃ T, T = w.heap.size := ⟨_, rfl⟩
  rw [← hTe] at B0 hBw hz2 HNE ⊢
  have HTE := Lib.hid hTe; clear hTe H0
  have hgl := hgb.lt
  refine wpIn_rangeFunc_tell (Mine := fun _ => False) (fun _ h => h.elim) rfl (by omega) (gf := 50) (lb := #[.pointer (some ⟨gb, 0, none⟩)]) rfl trivial (enters_of Tryd.func50 (by kernel_rfl) rfl)
    (toldII_tells 8 (by omega) gb v xs w2 hgb hL hn) KeepIt.trans (keepIt_b hgl hvb) (Below.refl _ _) (fun _ => rfl)
    (fun pre W => SuI T pre W ∧ Below T w W)
    (fun c pre W => False)
    (OwnM.of_none (OwnFrom.and (Own.from (SuI.own T) _) (ownFrom_below (by have := HTE.out; omega) (by omega))))
    (fun c => OwnM.of_none (fun _ _ _ _ hs _ _ => hs.elim))
    ⟨B0, hBw⟩
    (fun x => { tmps := #[.pointer (some ⟨tb, 0, none⟩), undef, .pointer (some ⟨T, 0, none⟩), undef, .int .i64 x.2, .pointer (some ⟨tb, 0, none⟩), .func (.func 50) #[] #[.pointer (some ⟨gb, 0, none⟩)], .int .i64 x.1, .int .i64 x.2, undef, undef, undef, undef], defers := [] }) ?assign ?body ?done ?stop
  case assign =>
    rintro l x W K hK
    gi_wp2
    exact hK
  case body =>
    rintro l pre x W ⟨c0, hB⟩ hT
    have hle := sumN_pre hT HP.out
    have hlp := sumN_pre (a := pre) (by obtain ⟨r, hr⟩ := hT; exact ⟨x :: r, by rw [← hr]; simp⟩) HP.out
    have HT := Lib.hid hT
    have hap := sumN_app pre [x]
    rw [sumN_one] at hap
    have hwr : IntKind.i64.wrap (sumN pre + x.2) = sumN (pre ++ [x]) := by rw [hap]; exact IntWalk.i64_in _ (by omega)
    have m0 := c0.cell 0
    have f0 := c0.frozen 0
    simp at m0
    have HI := Lib.hid (And.intro c0 (And.intro hB hap)); clear c0 hB hap hT
    gi_wp2
    have hx0 : 0 < xs.length := by obtain ⟨r, hr⟩ := HT.out; rw [← hr]; simp; omega
    have hput := HI.out.1.put 0 (.int .i64 (sumN (pre ++ [x])))
    refine ⟨KeepsOthers.setCell _ _ _, ⟨by simp, Below.heap_setCell _ _ _ _ HNE.out.1.symm, fun g hg => Below.heap_setCell _ _ _ _ (HNE.out.2 hx0 g hg).symm⟩, ?_, ?_⟩
    · exact hput
    · exact HI.out.2.1.setCell (p := ⟨T, 0, none⟩) (Nat.le_refl _) _
  case done =>
    rintro D zs W hD hzs ⟨c0, hB⟩ hK
    have hz : zs = xs := hzs
    subst hz
    unfold SuI at c0
    have m1 := c0.cell 0
    have f1 := c0.frozen 0
    simp at m1
    have hD' : w.heap.size ≤ D := by have := HTE.out; omega
    have HC := Lib.hid (And.intro c0 (And.intro hB hK)); clear c0 hB hK hzs
    gi_wp2
    have hK2 : (W.setCell ⟨T, 0, none⟩ (.int .i64 (sumN zs))).heap[D]? = some (Obj.deferred (some [])) := (KeepsOthers.setCell W ⟨T, 0, none⟩ (.int .i64 (sumN zs))).same D _ HC.out.2.2 rfl
    have hR2 : Blk (W.setCell ⟨T, 0, none⟩ (.int .i64 (sumN zs))) T 3 #[.int .i64 (sumN zs)] := HC.out.1.put 0 (.int .i64 (sumN zs))
    have hB2 := HC.out.2.1.setCell (p := ⟨T, 0, none⟩) (Nat.le_refl _) (.int .i64 (sumN zs))
    refine ⟨by simp, .inl ⟨_, _, rfl, run_takeDeferred hK2, ?_⟩⟩
    refine ⟨_, res_cellI rfl _ _ T 3 (.int .i64 (sumN zs)) rfl (blk_ownF hR2 (grownBy_putObj' _ D (.deferred none)) (fun r e => by cases e; exact ⟨_, hK2, rfl⟩)) Tryd.underlying3, rfl, ?_⟩
    exact (hB2.mono (by have := HTE.out; omega)).trans (belowK_b (w := w) (Nat.le_refl _) _ D _ _ hD' hK2 rfl rfl)
  case stop =>
    rintro D c pre W hD hSp h
    exact h.elim
end Go.Proofs.YtlogdionhgabdaaDoor
