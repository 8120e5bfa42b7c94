/- lz.Match of a text of one byte (for the document's example): places, best, put. -/
import Derived.RangeFuncFrom
import Derived.RangeFuncNested
import Derived.RangeFuncBound
import Derived.RangeFuncCalls
import Derived.RangeFuncLeaves
import Derived.Shelf.Abstract
import Derived.Shelf.RegionOpen
import Derived.WalkKit
import Derived.OwnWalkIn
import Derived.TacticsInMore
import Derived.LoopNIn
import Derived.LoopIn
import Derived.Test.YthmlfeaoaanmoaaLzTok
set_option linter.unusedVariables false
set_option linter.unusedSimpArgs false
namespace Go.Proofs.Ythmlfeaoaanmoaa
open Go.RowKit Go.Shelf
open Sw
attribute [local go_sem] Oper.semAt_some
theorem blk_own {W W' : World} {row : Option Nat} {g : Nat} {t : TypeId} {cs : Array Value} (h : Blk W g t cs) (hg : W.grownBy W' row) (hr : ∀ r, row = some r → ∃ o : Obj, W.heap[r]? = some o ∧ o.isCells = false) : Blk W' g t cs :=
  h.grown hg (fun e => by
    obtain ⟨o, ho, hc⟩ := hr g e.symm
    unfold Blk at h
    rw [h] at ho
    cases ho
    cases hc)
set_option maxRecDepth 100000 in
theorem places_any (w : World) (p : Value) (at_ : Int) (hp : p.oneCell' = true) :
    Calls Try.prog 79 #[p, .int .i64 at_] w fun e w' => e = .returned (.func (.func 89) #[] #[.pointer (some ⟨w.heap.size + 1, 0, none⟩), .pointer (some ⟨w.heap.size, 0, none⟩)]) ∧ w' = (w.alloc (.cells #[p] 102)).alloc (.cells #[.int .i64 at_] 3) := by
  go_enter Try.func79, Try.ntmps79
  go_wp2_with fail
  go_ret
  exact ⟨rfl, rfl⟩
set_option maxRecDepth 100000 in
set_option maxHeartbeats 2000000 in
theorem places_short (n : Nat) (hn : 1 ≤ n) (n₀ ba bf g : Nat) (at_ : Int) (s : ByteArray) (w : World) (h0 : 0 ≤ at_) (h1 : at_ ≤ 1000000) (hs : s.size ≤ 1000000) (hend : (s.size : Int) < at_ + 3)
    (ha : w.cell? ⟨ba, 0, none⟩ = some (.int .i64 at_)) (hf : w.cell? ⟨bf, 0, none⟩ = some (.pointer (some ⟨g, 0, none⟩))) (hg : w.cell? ⟨g, 0, none⟩ = some (.string s)) (hba : ba < w.heap.size) (hbf : bf < w.heap.size) (hbg : g < w.heap.size) :
    SeqStopsK Fence.wide n Try.prog 89 #[.pointer (some ⟨ba, 0, none⟩), .pointer (some ⟨bf, 0, none⟩)] (fun x : Int => #[.int .i64 x]) (Below n₀) (fun xs => xs = []) (fun _ => False) 0 w := fun l J Jx W hW hJ hJx hY hJ0 => by
  have ka := (hW.cell (p := ⟨ba, 0, none⟩) hba).trans ha
  have kf := (hW.cell (p := ⟨bf, 0, none⟩) hbf).trans hf
  have kg := (hW.cell (p := ⟨g, 0, none⟩) hbg).trans hg
  clear ha hf hg hY
  refine callsIn_of_wp Try.func89 rfl trivial ?_ rfl
  simp only [Try.ntmps89, List.size_toArray, List.length_cons, List.length_nil, Nat.reduceAdd, Nat.reduceSub, Array.replicate_succ, Array.replicate_zero, List.push_toArray, List.append_toArray, List.nil_append, List.cons_append]
  gi_wp2
  gi_region
  all_goals
    gi_wp2
  refine bodyPost_ret (results_none rfl _ _ _) rfl ?_
  exact ⟨⟨_, rfl⟩, .inl ⟨[], rfl, hJ [] W _ none hJ0 (grown_drew (grown_refl W none)) (fun r h => by cases h)⟩⟩
set_option maxRecDepth 100000 in
set_option maxHeartbeats 4000000 in
theorem best_short (g : Nat) (at_ : Int) (s : ByteArray) (w : World) (h0 : 0 ≤ at_) (h1 : at_ ≤ 1000000) (hs : s.size ≤ 1000000) (hend : (s.size : Int) < at_ + 3) (hg : w.cell? ⟨g, 0, none⟩ = some (.string s)) :
    Calls Try.prog 62 #[.pointer (some ⟨g, 0, none⟩), .int .i64 at_] w fun e w' => e = .returned (.agg #[.int .u8 0, .int .i64 0, .int .i64 0]) ∧ Below w.heap.size w w' := by
  refine callsIn_wide.1 (?_ : CallsIn Fence.wide 9 _ _ _ _ _)
  refine callsIn_of_wp_marks Try.func62 rfl trivial ?_ rfl
  simp only [Try.ntmps62, List.size_toArray, List.length_cons, List.length_nil, Nat.reduceAdd, Nat.reduceSub, Array.replicate_succ, Array.replicate_zero, List.push_toArray, List.append_toArray, List.nil_append, List.cons_append]
  gi_wp2
  refine ⟨trivial, ?_⟩
  refine (callsIn_wide.2 (places_any _ _ _ rfl)).mono ?_
  rintro e w' ⟨rfl, rfl⟩
  have hBT := blk_trd w (.cells #[.pointer (some ⟨g, 0, none⟩)] 102) (.cells #[.int .i64 at_] 3) #[.int .u8 0, .int .i64 0, .int .i64 0] 80
  have hB3 : Below w.heap.size w (((w.alloc (.cells #[.pointer (some ⟨g, 0, none⟩)] 102)).alloc (.cells #[.int .i64 at_] 3)).alloc (.cells #[.int .u8 0, .int .i64 0, .int .i64 0] 80)) := (((Below.refl _ _).alloc (Nat.le_refl _) _).alloc (by simp) _).alloc (by simp; omega) _
  obtain ⟨w3, hw3⟩ : ∃ w3, w3 = ((w.alloc (.cells #[.pointer (some ⟨g, 0, none⟩)] 102)).alloc (.cells #[.int .i64 at_] 3)).alloc (.cells #[.int .u8 0, .int .i64 0, .int .i64 0] 80) := ⟨_, rfl⟩
  have hs3 : w3.heap.size = w.heap.size + 1 + 1 + 1 := by rw [hw3]; simp
  rw [← hw3] at hBT hB3 ⊢
  clear hw3
  have hglt : g < w.heap.size := World.block_lt_of_cell? w ⟨g, 0, none⟩ hg
  have hg3 := (hB3.cell (p := ⟨g, 0, none⟩) hglt).trans hg
  have hB5 : Below w.heap.size w ((w3.alloc (.cells #[.pointer (some ⟨g, 0, none⟩)] 102)).alloc (.cells #[.int .i64 at_] 3)) := (hB3.alloc hB3.size _).alloc (by simp; omega) _
  have hBT5 : Blk ((w3.alloc (.cells #[.pointer (some ⟨g, 0, none⟩)] 102)).alloc (.cells #[.int .i64 at_] 3)) (w.heap.size + 1 + 1) 80 #[.int .u8 0, .int .i64 0, .int .i64 0] := (hBT.alloc _).alloc _
  have hca : ((w3.alloc (.cells #[.pointer (some ⟨g, 0, none⟩)] 102)).alloc (.cells #[.int .i64 at_] 3)).cell? ⟨w3.heap.size + 1, 0, none⟩ = some (.int .i64 at_) := (blk_snd w3 (.cells #[.pointer (some ⟨g, 0, none⟩)] 102) #[.int .i64 at_] 3).cell 0
  have hcf : ((w3.alloc (.cells #[.pointer (some ⟨g, 0, none⟩)] 102)).alloc (.cells #[.int .i64 at_] 3)).cell? ⟨w3.heap.size, 0, none⟩ = some (.pointer (some ⟨g, 0, none⟩)) := (blk_fst w3 #[.pointer (some ⟨g, 0, none⟩)] 102 (.cells #[.int .i64 at_] 3)).cell 0
  have hcg : ((w3.alloc (.cells #[.pointer (some ⟨g, 0, none⟩)] 102)).alloc (.cells #[.int .i64 at_] 3)).cell? ⟨g, 0, none⟩ = some (.string s) := (hB5.cell (p := ⟨g, 0, none⟩) hglt).trans hg
  have hs5 : ((w3.alloc (.cells #[.pointer (some ⟨g, 0, none⟩)] 102)).alloc (.cells #[.int .i64 at_] 3)).heap.size = w3.heap.size + 1 + 1 := by simp
  generalize (w3.alloc (.cells #[.pointer (some ⟨g, 0, none⟩)] 102)).alloc (.cells #[.int .i64 at_] 3) = w5 at *
  rw [hs3] at hca hcf
  have hz5 : w.heap.size + 1 + 1 + 1 + 1 < w5.heap.size := by omega
  rw [hs3]
  clear hs3 hs5
  gi_wp2
  refine wpIn_rangeFunc_ownF rfl (by omega) (gf := 89) (lb := #[.pointer (some ⟨w.heap.size + 1 + 1 + 1 + 1, 0, none⟩), .pointer (some ⟨w.heap.size + 1 + 1 + 1, 0, none⟩)]) rfl trivial (enters_of Try.func89 (by kernel_rfl) rfl)
    (places_short 8 (by omega) w5.heap.size (w.heap.size + 1 + 1 + 1 + 1) (w.heap.size + 1 + 1 + 1) g at_ s w5 h0 h1 hs hend hca hcf hcg (by omega) (by omega) (by omega)) belowK_t (belowK_b (Nat.le_refl _)) (Below.refl _ _) (fun _ => rfl)
    (fun pre W => (pre = [] ∧ Blk W (w.heap.size + 1 + 1) 80 #[.int .u8 0, .int .i64 0, .int .i64 0]) ∧ Below w.heap.size w W)
    (fun _ _ _ => False)
    (OwnFrom.and (Own.from (fun s A B row hs hg hr => ⟨hs.1, blk_own hs.2 hg hr⟩) _) (ownFrom_below (Nat.le_refl _) (by omega)))
    (fun _ _ _ _ _ hs _ _ => hs)
    ⟨⟨rfl, hBT5⟩, hB5⟩
    (fun x => { tmps := #[.pointer (some ⟨g, 0, none⟩), .int .i64 at_, .pointer (some ⟨w.heap.size, 0, none⟩), .pointer (some ⟨w.heap.size + 1, 0, none⟩), .pointer (some ⟨w.heap.size + 1 + 1, 0, none⟩), .int .i64 x, undef, .pointer (some ⟨g, 0, none⟩), .int .i64 at_, .func (.func 89) #[] #[.pointer (some ⟨w.heap.size + 1 + 1 + 1 + 1, 0, none⟩), .pointer (some ⟨w.heap.size + 1 + 1 + 1, 0, none⟩)], .int .i64 x, undef, undef, undef, undef, undef, undef, undef, undef, undef, undef, undef, undef, undef, undef, undef, undef, undef, undef, undef, undef, undef, undef, undef], defers := [] }) ?assign ?body ?done ?stop
  case assign =>
    intro l x W K hK
    gi_wp2
    exact hK
  case body =>
    rintro l pre x W _ hlt
    omega
  case done =>
    rintro D ys W hD rfl ⟨⟨_, hT⟩, hB⟩ hK
    have t0 := hT.cell 0
    have t1 := hT.cell 1
    have t2 := hT.cell 2
    have f0 := hT.frozen 0
    have f1 := hT.frozen 1
    have f2 := hT.frozen 2
    simp at t0 t1 t2
    have HT := Lib.hid hT; clear hT
    gi_wp2
    have hT6 := ((HT.out.put 0 (.int .u8 0)).put 1 (.int .i64 0)).put 2 (.int .i64 0)
    have hK6 := (KeepsOthers.setCell _ ⟨w.heap.size + 1 + 1, 2, none⟩ (.int .i64 0)).same D _ ((KeepsOthers.setCell _ ⟨w.heap.size + 1 + 1, 1, none⟩ (.int .i64 0)).same D _ ((KeepsOthers.setCell W ⟨w.heap.size + 1 + 1, 0, none⟩ (.int .u8 0)).same D _ hK rfl) rfl) rfl
    have hB6 := ((hB.setCell (p := ⟨w.heap.size + 1 + 1, 0, none⟩) (by simp; omega) (.int .u8 0)).setCell (p := ⟨w.heap.size + 1 + 1, 1, none⟩) (by simp; omega) (.int .i64 0)).setCell (p := ⟨w.heap.size + 1 + 1, 2, none⟩) (by simp; omega) (.int .i64 0)
    refine ⟨by simp, .inl ⟨_, _, rfl, run_takeDeferred hK6, ?_⟩⟩
    refine ⟨_, results_cell_row rfl _ _ (w.heap.size + 1 + 1) 80 #[.int .u8 0, .int .i64 0, .int .i64 0] (0, 0) _ rfl (blk_own hT6 (grownBy_putObj' _ D (.deferred none)) (fun r e => by cases e; exact ⟨_, hK6, rfl⟩)) Try.underlying80 rfl (by kernel_rfl), rfl, ?_⟩
    exact hB6.trans (belowK_b (w := w) (Nat.le_refl _) _ D _ _ (by omega) hK6 rfl rfl)
  case stop =>
    rintro D c pre W _ h _ _
    exact h.elim
theorem info_int8 : (Try.prog.info? 3).map (fun i => (i.zero, i.size, i.bytes)) = some (some (.int .i64 0), 1, 8) := by kernel_rfl
set_option maxRecDepth 100000 in
set_option maxHeartbeats 2000000 in
theorem put_short (g : Nat) (at_ : Int) (s : ByteArray) (mp dp : Value) (w : World) (h0 : 0 ≤ at_) (h1 : at_ ≤ 1000000) (hs : s.size ≤ 1000000) (hend : (s.size : Int) < at_ + 3) (hg : Blk w g 105 #[.string s, mp, .slice none 0 0, dp]) :
    Calls Try.prog 63 #[.pointer (some ⟨g, 0, none⟩), .int .i64 at_] w fun e w' => (∃ r, e = .returned r) ∧ (∃ v, Blk w' g 105 #[.string s, mp, v, dp]) ∧ w.grownBy w' (some g) := by
  have c0 := hg.cell 0
  have c2 := hg.cell 2
  have f2 := hg.frozen 2
  simp at c0 c2
  have hlt := hg.lt
  have HG := Lib.hid hg; clear hg
  go_enter Try.func63, Try.ntmps63
  go_wp2_with (refine wpList_app rfl _ _ 48 rfl w.heap.size 3 (.int .i64 0) 1 8 Try.underlying48 info_int8 rfl (by omega) (.slice none 0 0) 0 [] (by simp [Act.eval, Act.put]) (World.ownsRow_nil _ _ _ _) w.heap.size 1 _ _ (by simp [Act.eval, Act.put]) (Blk.new _ _ _) rfl (by simp [Value.oneCell']) (by omega) (by omega) (by simp) _ rfl ?_; intro g2 cap2 w5 ho2 hg2 hat2 hlt2; have hT5 := (HG.out.alloc (Obj.cells #[.int .i64 (-1)] 3)).grown hg2 (fun h => by cases h); have t2 := hT5.cell 2; have tf2 := hT5.frozen 2; simp at t2)
  refine bodyPost_ret (results_none rfl _ _ _) rfl ⟨⟨_, rfl⟩, ⟨_, hT5.put 2 _⟩, ?_⟩
  exact grown_put (grown_trans (grown_alloc (grown_refl w (some g)) _) ⟨hg2.os, hg2.tape, hg2.output, hg2.size, fun k hk hne => hg2.block k hk (by simp [Value.ownBlock])⟩) 2 _
set_option maxRecDepth 100000 in
set_option maxHeartbeats 4000000 in
theorem match_a (w : World) :
    Calls Try.prog 43 #[.string ⟨#[97]⟩, .int .i64 9] w fun e w' => ∃ v, e = .returned v ∧ SlV w' 3 tkC v [⟨97, 0, 0⟩] ∧ Below w.heap.size w w' := by
  have hmm := @run_makeMap Try.prog
  have hsz : (⟨#[97]⟩ : ByteArray).size = 1 := rfl
  have hmx : (max 0 9 : Int) = 9 := by decide
  go_enter Try.func43, Try.ntmps43
  go_wp2_with fail
  go_loopw [4, 7, 8, 9, 10] (fun o b t _ _ wr => Below w.heap.size w wr ∧ ((∃ mp dp : Value, o = .slice none 0 0 ∧ b = .bool false ∧ t = .int .i64 0 ∧ Blk wr (w.heap.size + 1) 105 #[.string ⟨#[97]⟩, mp, .slice none 0 0, dp] ∧ Blk wr (w.heap.size + 1 + 1) 80 #[.int .u8 0, .int .i64 0, .int .i64 0]) ∨ (t = .int .i64 1 ∧ wr.ownsRow w.heap.size 80 3 o 1 [.int .u8 97, .int .i64 0, .int .i64 0]))) (fun _ _ t _ _ _ => 1 - (intOf t).toNat)
  case atStart => exact ⟨(((Below.refl _ _).alloc (Nat.le_refl _) _).alloc (by simp) _).alloc (by simp; omega) _, .inl ⟨_, _, rfl, rfl, rfl, blk_mid _ _ _ _ _, blk_trd _ _ _ _ _⟩⟩
  case round =>
    obtain ⟨hbw, ⟨mp, dp, rfl, rfl, rfl, hF, hT⟩ | ⟨rfl, ho⟩⟩ := hrel
    · have hB := fun W (h : Blk W (w.heap.size + 1) 105 #[.string ⟨#[97]⟩, mp, .slice none 0 0, dp]) => best_short (w.heap.size + 1) 0 ⟨#[97]⟩ W (by omega) (by omega) (by rw [hsz]; omega) (by rw [hsz]; omega) (h.cell 0)
      have hP := fun W (h : Blk W (w.heap.size + 1) 105 #[.string ⟨#[97]⟩, mp, .slice none 0 0, dp]) => put_short (w.heap.size + 1) 0 ⟨#[97]⟩ mp dp W (by omega) (by omega) (by rw [hsz]; omega) (by rw [hsz]; omega) h
      have HB := Lib.hid hB; clear hB
      have HP := Lib.hid hP; clear hP
      have t0 := hT.cell 0
      have t1 := hT.cell 1
      have t2 := hT.cell 2
      simp at t0 t1 t2
      have hF1 := hF.alloc (Obj.cells #[.int .u8 0, .int .i64 0, .int .i64 0] 80)
      have hb1 : Below w.heap.size w (wr.alloc (Obj.cells #[.int .u8 0, .int .i64 0, .int .i64 0] 80)) := hbw.alloc hbw.size _
      have hN1 := Blk.new wr 80 #[.int .u8 0, .int .i64 0, .int .i64 0]
      have hltF := hF.lt
      clear hmm
      go_wp2_with fail
      refine (HB.out _ hF1).mono ?_
      rintro e w1 ⟨rfl, hbB⟩
      have hF2 := hF1.below hbB hF1.lt
      have hN2 := hN1.below hbB hN1.lt
      have hb2 := hb1.trans (hbB.mono hb1.size)
      have n0 := hN2.cell 0
      have n1 := hN2.cell 1
      have n2 := hN2.cell 2
      have m0 := hN2.frozen 0
      have m1 := hN2.frozen 1
      have m2 := hN2.frozen 2
      simp at n0 n1 n2
      go_wp2_with fail
      have hF3 := ((hF2.far (p := ⟨wr.heap.size, 0, none⟩) (by simp; omega) (.int .u8 0)).far (p := ⟨wr.heap.size, 1, none⟩) (by simp; omega) (.int .i64 0)).far (p := ⟨wr.heap.size, 2, none⟩) (by simp; omega) (.int .i64 0)
      have hN3 := ((hN2.put 0 (.int .u8 0)).put 1 (.int .i64 0)).put 2 (.int .i64 0)
      have hwrs := hbw.size
      have hb3 := ((hb2.setCell (p := ⟨wr.heap.size, 0, none⟩) hwrs (.int .u8 0)).setCell (p := ⟨wr.heap.size, 1, none⟩) hwrs (.int .i64 0)).setCell (p := ⟨wr.heap.size, 2, none⟩) hwrs (.int .i64 0)
      refine (HP.out _ hF3).mono ?_
      rintro e w4 ⟨⟨r, rfl⟩, ⟨v4, hF4⟩, hgr⟩
      have hN4 : Blk w4 wr.heap.size 80 #[.int .u8 0, .int .i64 0, .int .i64 0] := hN3.grown hgr (by simp; omega)
      have hb4 := below_grown hb3 hgr (by omega) hb3.size
      clear n0 n1 n2 m0 m1 m2 t0 t1 t2
      have n0 := hN4.cell 0
      have n1 := hN4.cell 1
      have n2 := hN4.cell 2
      simp at n0 n1 n2
      have H4 := Lib.hid hb4.size
      clear hF1 hF2 hF3 hN1 hN2 hN3 hF hT HB HP hbB hgr hb1 hb2 hb3 hF4
      go_wp2_with (refine wpList_app rfl _ _ 69 rfl w.heap.size 80 (.agg #[.int .u8 0, .int .i64 0, .int .i64 0]) 3 24 Try.underlying69 info_tk rfl (by omega) (.slice none 0 0) 0 [] (by simp [Act.eval, Act.put]) (World.ownsRow_nil _ _ _ _) w4.heap.size 1 #[.int .u8 97, .int .i64 0, .int .i64 0] _ (by simp [Act.eval, Act.put]) (Blk.new _ _ _) rfl (by simp [Value.oneCell']) (by omega) (by omega) (by have := H4.out; simp; omega) _ rfl ?_; intro g2 cap2 w5 ho2 hg2 hat2 hlt2)
      have hw5 : Below w.heap.size w w5 := (hb4.alloc hb4.size _).grown hg2 (by have := H4.out; simp; omega) (fun k h => by cases h)
      go_roundw
      case rel => exact ⟨hw5, .inr ⟨rfl, ho2⟩⟩
      case measure => simp [intOf]
    · have hsl : SlV wr 3 tkC u4 [⟨97, 0, 0⟩] := SlV.of_own (by exact ho) tkC_len (by omega)
      have HSL := Lib.hid hsl; clear hsl ho hmm
      go_wp2_with fail
      go_ret
      exact ⟨_, rfl, HSL.out, hbw⟩
end Go.Proofs.Ythmlfeaoaanmoaa
