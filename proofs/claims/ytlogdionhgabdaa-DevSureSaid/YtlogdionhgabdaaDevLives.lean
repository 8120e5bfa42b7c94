/- A device of nothing; the document's example of layer 17. -/
import Derived.Test.YtlogdionhgabdaaDevClone
import Derived.Test.YtlogdionhgabdaaDevSector
set_option linter.unusedVariables false
set_option linter.unusedSimpArgs false
namespace Sw
open Go Go.RowKit
theorem SlV.turned {F : Nat → Prop} {w W : World} {size : Nat} {α : Type} {E : α → List Value} {v : Value} {l : List α} (h : SlV w size E v l) (hb : ∀ g, v.ownBlock = some g → ¬ F g) (k : Turn F w W) : SlV W size E v l := by
  obtain ⟨A, c, rfl, h1, h2, h3⟩ := h
  refine ⟨A, c, rfl, h1, h2, fun hp => ?_⟩
  obtain ⟨b, off, hA, hlt, hc⟩ := h3 hp
  subst hA
  refine ⟨b, off, rfl, Nat.lt_of_lt_of_le hlt k.size, fun i hi j hj => ?_⟩
  rw [← hc i hi j hj]
  exact World.cell?_of_block (a := ⟨b, _, none⟩) (k.block b hlt (hb b rfl))
/-- a new slice of one number -/
theorem slv_one (w : World) (t : TypeId) (x : Int) : SlV (w.alloc (.cells #[.int .i64 x] t)) 1 intE (.slice (some ⟨w.heap.size, 0, none⟩) 1 1) [x] :=
  ⟨_, 1, rfl, Nat.le_refl _, by decide, SlOf.of_blk1 (Blk.new w t #[.int .i64 x]) rfl⟩
theorem live17_write (s : ByteArray) (hs : s.size = 512) : (newD 2).write 1 s = (0, ⟨2, [zS, zS], [(1, s)], -1, -1, false, 1⟩) := by
  unfold Dv.write
  rw [if_neg (by decide), if_neg (by rw [hs]; decide), if_neg (by decide), if_neg (by decide)]
  rfl
theorem live17_a (s : ByteArray) : (Dv.restart ⟨2, [zS, zS], [(1, s)], -1, -1, false, 1⟩ [0]) = ⟨2, [zS, zS], [], -1, -1, false, 1⟩ := rfl
theorem live17_b (s : ByteArray) : (Dv.restart ⟨2, [zS, zS], [(1, s)], -1, -1, false, 1⟩ [1]) = ⟨2, [zS, s], [], -1, -1, false, 1⟩ := rfl
theorem live17_ra : Dv.read ⟨2, [zS, zS], [], -1, -1, false, 1⟩ 1 = secS 0 := by
  unfold Dv.read
  rw [if_neg (by decide)]
  rfl
theorem live17_rb (s : ByteArray) : Dv.read ⟨2, [zS, s], [], -1, -1, false, 1⟩ 1 = s := by
  unfold Dv.read
  rw [if_neg (show ¬ ((1 : Int) < 0 ∨ ((2 : Nat) : Int) ≤ 1) by decide)]
  rfl
end Sw
namespace Go.Proofs.Ytlogdionhgabdaa
open Go Go.RowKit
open Sw
set_option maxRecDepth 100000
theorem devLimitNil_any (w : World) (n : Int) : Calls Try.prog 8 #[.pointer none, .int .i64 n] w fun e w' => e = .returned (.tuple #[]) ∧ w = w' := by
  go_enter Try.func8, Try.ntmps8
  go_wp2_with fail
  go_end0
  exact ⟨rfl, rfl⟩
theorem devFuseNil_any (w : World) (n : Int) : Calls Try.prog 9 #[.pointer none, .int .i64 n] w fun e w' => e = .returned (.tuple #[]) ∧ w = w' := by
  go_enter Try.func9, Try.ntmps9
  go_wp2_with fail
  go_end0
  exact ⟨rfl, rfl⟩
theorem devRestartNil_any (w : World) (v : Value) : Calls Try.prog 19 #[.pointer none, v] w fun e w' => e = .returned (.tuple #[]) ∧ w = w' := by
  go_enter Try.func19, Try.ntmps19
  go_wp2_with fail
  refine bodyPost_ret (results_none rfl _ _ _) rfl ?_
  exact ⟨rfl, rfl⟩
theorem devWriteNil_any (w : World) (i : Int) (s : ByteArray) : Calls Try.prog 10 #[.pointer none, .int .i64 i, .string s] w fun e w' => e = .returned (.int .i64 1) ∧ w = w' := by
  go_enter Try.func10, Try.ntmps10
  go_wp2_with fail
  go_ret
  exact ⟨rfl, rfl⟩
theorem devFlushNil_any (w : World) : Calls Try.prog 12 #[.pointer none] w fun e w' => e = .returned (.int .i64 1) ∧ w = w' := by
  go_enter Try.func12, Try.ntmps12
  go_wp2_with fail
  go_ret
  exact ⟨rfl, rfl⟩
theorem devSizeNil_any (w : World) : Calls Try.prog 23 #[.pointer none] w fun e w' => e = .returned (.int .i64 0) ∧ w = w' := by
  go_enter Try.func23, Try.ntmps23
  go_wp2_with fail
  go_ret
  exact ⟨rfl, rfl⟩
theorem devReadNil_any (w : World) : Calls Try.prog 14 #[.pointer none, .int .i64 0] w fun e w' => e = .returned (.string ⟨#[]⟩) ∧ w = w' := by
  have HS := Lib.hid (devSizeNil_any w)
  go_enter Try.func14, Try.ntmps14
  go_wp2_with fail
  refine HS.out.mono ?_
  rintro e _ ⟨rfl, rfl⟩
  go_wp2_with fail
  go_ret
  exact ⟨rfl, rfl⟩
theorem devPendingNil_any (w : World) : Calls Try.prog 21 #[.pointer none] w fun e w' => e = .returned (.int .i64 0) ∧ w = w' := by
  go_enter Try.func21, Try.ntmps21
  go_wp2_with fail
  go_ret
  exact ⟨rfl, rfl⟩
theorem devOpsNil_any (w : World) : Calls Try.prog 15 #[.pointer none] w fun e w' => e = .returned (.int .i64 0) ∧ w = w' := by
  go_enter Try.func15, Try.ntmps15
  go_wp2_with fail
  go_ret
  exact ⟨rfl, rfl⟩
theorem devOffNil_any (w : World) : Calls Try.prog 13 #[.pointer none] w fun e w' => e = .returned (.bool false) ∧ w = w' := by
  go_enter Try.func13, Try.ntmps13
  go_wp2_with fail
  go_ret
  exact ⟨rfl, rfl⟩
theorem devCloneNil_any (w : World) : Calls Try.prog 24 #[.pointer none] w fun e w' => e = .returned (.pointer none) ∧ w = w' := by
  go_enter Try.func24, Try.ntmps24
  go_wp2_with fail
  go_ret
  exact ⟨rfl, rfl⟩
theorem sector0_any (w : World) : Calls Try.prog 11 #[.int .u8 0] w fun e w' => e = .returned (.string (secS 0)) ∧ Below w.heap.size w w' := sector_any 0 w
theorem sector7_any (w : World) : Calls Try.prog 11 #[.int .u8 7] w fun e w' => e = .returned (.string (secS 7)) ∧ Below w.heap.size w w' := sector_any 7 w
theorem newD_two : newD 2 = ⟨2, [zS, zS], [], -1, -1, false, 0⟩ := rfl
theorem lives17_any (w : World) : Calls Try.prog 6 #[] w fun e w' => e = .returned (.bool true) ∧ Below w.heap.size w w' := by
  have HN := Lib.hid (devNew_any w 2)
  go_enter Try.func6, Try.ntmps6
  go_wp2_with fail
  refine HN.out.mono ?_
  rintro e w1 ⟨bd, F, rfl, hd, hF, hb1⟩
  have H1 := Lib.hid (And.intro hd (And.intro hF hb1)); clear hd hF hb1 HN
  go_wp2_with fail
  refine (sector7_any w1).mono ?_
  rintro e w2 ⟨rfl, hb2⟩
  have H2 := Lib.hid (And.intro (H1.out.1.below hb2) (H1.out.2.2.trans (hb2.mono H1.out.2.2.size))); clear hb2
  obtain ⟨bs, bw, fS, fW, hdi⟩ := H2.out.1
  have hw := devWrite_any hdi (newD_ok 2) (by show 0 ≤ 999998; omega) (by show (0 : Int) ≤ 1000000; omega) 1 (secS 7)
  rw [live17_write (secS 7) (secS_size 7)] at hw
  have HW := Lib.hid hw; clear hw hdi
  go_wp2_with fail
  refine HW.out.mono ?_
  rintro e w3 ⟨rfl, ⟨F3, hd3, hF3⟩, ht3⟩
  have hok1 : Dv.Ok ⟨2, [zS, zS], [(1, secS 7)], -1, -1, false, 1⟩ := by
    have := (newD_ok 2).write 1 (secS 7)
    rw [live17_write (secS 7) (secS_size 7)] at this
    exact this
  have H3 := Lib.hid (And.intro hd3 (And.intro (fun i hi => (hF3 i hi).elim (fun h => H1.out.2.1 i h) (fun h => Nat.le_trans H2.out.2.size h) : ∀ i, F3 i → w.heap.size ≤ i) (H2.out.2.trans (ht3.to_below (fun i hi => H1.out.2.1 i hi) H2.out.2.size)))); clear hd3 hF3 ht3 HW
  have HOK := Lib.hid hok1; clear hok1
  obtain ⟨bs3, bw3, fS3, fW3, hdi3⟩ := H3.out.1
  have HC := Lib.hid (devClone_any hdi3 HOK.out (by show 1 ≤ 1000000; omega)); clear hdi3
  go_wp2_with fail
  refine HC.out.mono ?_
  rintro e w4 ⟨be, G, rfl, he4, hG4, hb4⟩
  have H4 := Lib.hid (And.intro (H3.out.1.below hb4) (And.intro he4 (And.intro hG4 (H3.out.2.2.trans (hb4.mono H3.out.2.2.size))))); clear he4 hG4 hb4 HC
  have hFlt := H3.out.1.lt
  -- the slice of what is kept
  have hal5 := (Below.refl w4.heap.size w4).alloc (Nat.le_refl _) (.cells #[.int .i64 0] 3)
  have hs5 := slv_one w4 3 0
  obtain ⟨bs5, bw5, fS5, fW5, hdi5⟩ := H4.out.1.below hal5
  have hr5 := devRestart_any hdi5 HOK.out (by show 1 ≤ 1000000; omega) (.slice (some ⟨w4.heap.size, 0, none⟩) 1 1) [0] (by decide) (by simp) (fun W hW => hs5.turned (fun g hg hFg => by have hgg : w4.heap.size = g := Option.some.inj hg; have := H4.out.1.lt _ hFg; omega) hW)
  rw [live17_a] at hr5
  have he5 := H4.out.2.1.below hal5
  obtain ⟨W5, hW5⟩ : ∃ W5, w4.alloc (.cells #[.int .i64 0] 3) = W5 := ⟨_, rfl⟩
  rw [hW5] at hr5 he5 hal5
  have H5 := Lib.hid (And.intro hr5 (And.intro he5 (H4.out.2.2.2.trans (hal5.mono H4.out.2.2.2.size)))); clear hr5 he5 hal5 hs5 hdi5
  go_wp2_with fail
  refine H5.out.1.mono ?_
  rintro e w6 ⟨rfl, ⟨F6, hd6, hF6⟩, ht6⟩
  have hdisj : ∀ i, G i → ¬ F3 i := fun i hi hf => by have := hFlt i hf; have := H4.out.2.2.1 i hi; omega
  have he6 := H5.out.2.1.turn ht6 hdisj
  have hbl6 := H5.out.2.2.trans (ht6.to_below (fun i hi => H3.out.2.1 i hi) H5.out.2.2.size)
  have hdj6 : ∀ i, F6 i → ¬ G i := fun i hi hg => (hF6 i hi).elim (fun h => hdisj i hg h) (fun h => by have := H5.out.2.1.lt i hg; omega)
  have hlo6 : ∀ i, G i → w.heap.size ≤ i := fun i hi => by have := H4.out.2.2.1 i hi; have := H3.out.2.2.size; omega
  have H6 := Lib.hid (And.intro hd6 (And.intro he6 (And.intro hbl6 (And.intro hdj6 hlo6)))); clear hd6 hF6 ht6 he6 hbl6 hdisj hFlt hdj6 hlo6 H5 hW5
  have hal7 := (Below.refl w6.heap.size w6).alloc (Nat.le_refl _) (.cells #[.int .i64 1] 3)
  have hs7 := slv_one w6 3 1
  obtain ⟨bs7, bw7, fS7, fW7, hdi7⟩ := H6.out.2.1.below hal7
  have hr7 := devRestart_any hdi7 HOK.out (by show 1 ≤ 1000000; omega) (.slice (some ⟨w6.heap.size, 0, none⟩) 1 1) [1] (by decide) (by simp) (fun W hW => hs7.turned (fun g hg hFg => by have hgg : w6.heap.size = g := Option.some.inj hg; have := H6.out.2.1.lt _ hFg; omega) hW)
  rw [live17_b] at hr7
  have hd7 := H6.out.1.below hal7
  obtain ⟨W7, hW7⟩ : ∃ W7, w6.alloc (.cells #[.int .i64 1] 3) = W7 := ⟨_, rfl⟩
  rw [hW7] at hr7 hd7 hal7
  have H7 := Lib.hid (And.intro hr7 (And.intro hd7 (H6.out.2.2.1.trans (hal7.mono H6.out.2.2.1.size)))); clear hr7 hd7 hal7 hs7 hdi7
  go_wp2_with fail
  refine H7.out.1.mono ?_
  rintro e w8 ⟨rfl, ⟨G8, he8, hG8⟩, ht8⟩
  have H8 := Lib.hid (And.intro (H7.out.2.1.turn ht8 H6.out.2.2.2.1) (And.intro he8 (H7.out.2.2.trans (ht8.to_below H6.out.2.2.2.2 H7.out.2.2.size)))); clear he8 hG8 ht8 H7 hW7
  obtain ⟨bs8, bw8, fS8, fW8, hdi8⟩ := H8.out.1
  have ho8 : Dv.Ok ⟨2, [zS, zS], [], -1, -1, false, 1⟩ := by have := HOK.out.restart [0]; rw [live17_a] at this; exact this
  have ho9 : Dv.Ok ⟨2, [zS, secS 7], [], -1, -1, false, 1⟩ := by have := HOK.out.restart [1]; rw [live17_b] at this; exact this
  have hr8 := devRead_any hdi8 ho8 (by show 0 ≤ 1000000; omega) 1 (by decide) (by decide)
  rw [live17_ra] at hr8
  have HR8 := Lib.hid hr8; clear hr8 hdi8
  go_wp2_with fail
  refine HR8.out.mono ?_
  rintro e w9 ⟨rfl, hb9⟩
  have H9 := Lib.hid (And.intro (H8.out.1.below hb9) (And.intro (H8.out.2.1.below hb9) (H8.out.2.2.trans (hb9.mono H8.out.2.2.size)))); clear hb9
  go_wp2_with fail
  refine (sector0_any w9).mono ?_
  rintro e w10 ⟨rfl, hb10⟩
  have H10 := Lib.hid (And.intro (H9.out.1.below hb10) (And.intro (H9.out.2.1.below hb10) (H9.out.2.2.trans (hb10.mono H9.out.2.2.size)))); clear hb10
  obtain ⟨bs9, bw9, fS9, fW9, hdi9⟩ := H10.out.2.1
  have hr9 := devRead_any hdi9 ho9 (by show 0 ≤ 1000000; omega) 1 (by decide) (by decide)
  rw [live17_rb] at hr9
  have HR9 := Lib.hid hr9; clear hr9 hdi9
  clear ho8 ho9
  go_wp2_with fail
  refine HR9.out.mono ?_
  rintro e w11 ⟨rfl, hb11⟩
  have H11 := Lib.hid (And.intro (H10.out.1.below hb11) (H10.out.2.2.trans (hb11.mono H10.out.2.2.size))); clear hb11
  go_wp2_with fail
  refine (sector7_any w11).mono ?_
  rintro e w12 ⟨rfl, hb12⟩
  have H12 := Lib.hid (And.intro (H11.out.1.below hb12) (H11.out.2.trans (hb12.mono H11.out.2.size))); clear hb12
  obtain ⟨bsz, bwz, fSz, fWz, hdiz⟩ := H12.out.1
  have HSZ := Lib.hid (devSize_any hdiz); clear hdiz
  go_wp2_with fail
  refine HSZ.out.mono ?_
  rintro e _ ⟨rfl, rfl⟩
  go_wp2_with fail
  go_ret
  exact ⟨rfl, H12.out.2⟩
end Go.Proofs.Ytlogdionhgabdaa
