/- Contracts of recon.Decide and of the reference's. -/
import Derived.Test.YtpnkgldpmalklaaReconDecide
set_option linter.unusedVariables false
set_option linter.unusedSimpArgs false
namespace Go.Proofs.Ytpnkgldpmalklaa
open Go.RowKit
open Sw
/-- a print, whether there is one, and two nodes, in their boxes -/
def Boxes4 (w : World) (was : Pr) (had : Bool) (a b : Nd) (W : World) : Prop :=
  Blk W w.heap.size 64 was.c ∧ Blk W (w.heap.size + 1) 4 #[.bool had] ∧ Blk W (w.heap.size + 1 + 1) 66 a.c ∧ Blk W (w.heap.size + 1 + 1 + 1) 66 b.c ∧ Below w.heap.size w W
theorem Boxes4.keep {w : World} {was : Pr} {had : Bool} {a b : Nd} {W W' : World} (h : Boxes4 w was had a b W) (hb : Below W.heap.size W W') : Boxes4 w was had a b W' :=
  ⟨h.1.below hb h.1.lt, h.2.1.below hb h.2.1.lt, h.2.2.1.below hb h.2.2.1.lt, h.2.2.2.1.below hb h.2.2.2.1.lt, h.2.2.2.2.trans (hb.mono h.2.2.2.2.size)⟩
theorem Boxes4.new (w : World) (was : Pr) (had : Bool) (a b : Nd) : Boxes4 w was had a b ((((w.alloc (.cells was.c 64)).alloc (.cells #[.bool had] 4)).alloc (.cells a.c 66)).alloc (.cells b.c 66)) :=
  ⟨(blk_fst _ _ _ _).alloc _ |>.alloc _, (blk_mid _ _ _ _ _).alloc _, (blk_trd _ _ _ _ _).alloc _, by
    have h := blk_trd (w.alloc (.cells was.c 64)) (.cells #[.bool had] 4) (.cells a.c 66) b.c 66
    rw [World.size_alloc] at h
    exact h, (((((Below.refl _ _).alloc (Nat.le_refl _) _).alloc (by simp) _).alloc (by simp; omega) _).alloc (by simp; omega) _)⟩
theorem decide_two (b : Bool) : decide (b = true) = b := by cases b <;> rfl
set_option maxRecDepth 100000 in
set_option maxHeartbeats 4000000 in
theorem decide_any (w : World) (was : Pr) (had : Bool) (a b : Nd) (ha : a.data.size ≤ maxLen) (hb : b.data.size ≤ maxLen) :
    Calls Try.prog 36 #[.agg was.c, .bool had, .agg a.c, .agg b.c] w fun e w' => e = .returned (.tuple #[.int .i64 (decideN was had a b).1, .int .i64 (decideN was had a b).2]) ∧ Below w.heap.size w w' := by
  have hSA := fun W => same_any W a b ha hb
  have hT1 := fun W (h : Boxes4 w was had a b W) => still_any W w.heap.size (w.heap.size + 1) was had a ha h.1 h.2.1
  have hT2 := fun W (h : Boxes4 w was had a b W) => still_any W w.heap.size (w.heap.size + 1) was had b hb h.1 h.2.1
  have hCL := fun W => class_any W a b
  have hB0 := Boxes4.new w was had a b
  have hdec : decideN was had a b = if decide (printN a = printN b) = true then (0, 0) else if decide (stateN was had a = 0) = true then (1, 0) else if decide (stateN was had b = 0) = true then (2, 0) else (3, classN a b) := by
    unfold decideN; simp only [decide_eq_true_eq]
  rw [hdec]
  clear hdec
  generalize decide (printN a = printN b) = r1 at *
  generalize decide (stateN was had a = 0) = r2 at *
  generalize decide (stateN was had b = 0) = r3 at *
  generalize classN a b = cl at *
  have HB0 := Lib.hid hB0; clear hB0
  have HSA := Lib.hid hSA; clear hSA
  have HT1 := Lib.hid hT1; clear hT1
  have HT2 := Lib.hid hT2; clear hT2
  have HCL := Lib.hid hCL; clear hCL
  unfold Pr.c Nd.c at *
  cases r1 with
  | true =>
    rw [if_pos rfl]
    go_enter Try.func36, Try.ntmps36
    go_wp2_with fail
    refine (HSA.out _).mono ?_
    rintro e w1 ⟨rfl, hb1⟩
    have HK1 := Lib.hid (HB0.out.keep hb1)
    go_wp2_with fail
    go_ret2
    exact ⟨rfl, HK1.out.2.2.2.2⟩
  | false =>
    rw [if_neg (by simp)]
    cases r2 with
    | true =>
      rw [if_pos rfl]
      go_enter Try.func36, Try.ntmps36
      go_wp2_with fail
      refine (HSA.out _).mono ?_
      rintro e w1 ⟨rfl, hb1⟩
      have HK1 := Lib.hid (HB0.out.keep hb1)
      have a0 := HK1.out.2.2.1.cell 0
      have a1 := HK1.out.2.2.1.cell 1
      have a2 := HK1.out.2.2.1.cell 2
      have a3 := HK1.out.2.2.1.cell 3
      have b0 := HK1.out.2.2.2.1.cell 0
      have b1 := HK1.out.2.2.2.1.cell 1
      have b2 := HK1.out.2.2.2.1.cell 2
      have b3 := HK1.out.2.2.2.1.cell 3
      unfold Nd.c at a0 a1 a2 a3 b0 b1 b2 b3
      simp at a0 a1 a2 a3 b0 b1 b2 b3
      go_wp2_with fail
      refine (HT1.out _ HK1.out).mono ?_
      rintro e w2 ⟨rfl, hb2⟩
      have HK2 := Lib.hid (HK1.out.keep hb2)
      go_wp2_with fail
      go_ret2
      exact ⟨rfl, HK2.out.2.2.2.2⟩
    | false =>
      rw [if_neg (by simp)]
      cases r3 with
      | true =>
        rw [if_pos rfl]
        go_enter Try.func36, Try.ntmps36
        go_wp2_with fail
        refine (HSA.out _).mono ?_
        rintro e w1 ⟨rfl, hb1⟩
        have HK1 := Lib.hid (HB0.out.keep hb1)
        have a0 := HK1.out.2.2.1.cell 0
        have a1 := HK1.out.2.2.1.cell 1
        have a2 := HK1.out.2.2.1.cell 2
        have a3 := HK1.out.2.2.1.cell 3
        have b0 := HK1.out.2.2.2.1.cell 0
        have b1 := HK1.out.2.2.2.1.cell 1
        have b2 := HK1.out.2.2.2.1.cell 2
        have b3 := HK1.out.2.2.2.1.cell 3
        unfold Nd.c at a0 a1 a2 a3 b0 b1 b2 b3
        simp at a0 a1 a2 a3 b0 b1 b2 b3
        go_wp2_with fail
        refine (HT1.out _ HK1.out).mono ?_
        rintro e w2 ⟨rfl, hb2⟩
        have HK2 := Lib.hid (HK1.out.keep hb2)
        clear a0 a1 a2 a3 b0 b1 b2 b3
        have a0 := HK2.out.2.2.1.cell 0
        have a1 := HK2.out.2.2.1.cell 1
        have a2 := HK2.out.2.2.1.cell 2
        have a3 := HK2.out.2.2.1.cell 3
        have b0 := HK2.out.2.2.2.1.cell 0
        have b1 := HK2.out.2.2.2.1.cell 1
        have b2 := HK2.out.2.2.2.1.cell 2
        have b3 := HK2.out.2.2.2.1.cell 3
        unfold Nd.c at a0 a1 a2 a3 b0 b1 b2 b3
        simp at a0 a1 a2 a3 b0 b1 b2 b3
        go_wp2_with fail
        refine (HT2.out _ HK2.out).mono ?_
        rintro e w3 ⟨rfl, hb3⟩
        have HK3 := Lib.hid (HK2.out.keep hb3)
        clear a0 a1 a2 a3 b0 b1 b2 b3
        go_wp2_with fail
        go_ret2
        exact ⟨rfl, HK3.out.2.2.2.2⟩
      | false =>
        rw [if_neg (by simp)]
        go_enter Try.func36, Try.ntmps36
        go_wp2_with fail
        refine (HSA.out _).mono ?_
        rintro e w1 ⟨rfl, hb1⟩
        have HK1 := Lib.hid (HB0.out.keep hb1)
        have a0 := HK1.out.2.2.1.cell 0
        have a1 := HK1.out.2.2.1.cell 1
        have a2 := HK1.out.2.2.1.cell 2
        have a3 := HK1.out.2.2.1.cell 3
        have b0 := HK1.out.2.2.2.1.cell 0
        have b1 := HK1.out.2.2.2.1.cell 1
        have b2 := HK1.out.2.2.2.1.cell 2
        have b3 := HK1.out.2.2.2.1.cell 3
        unfold Nd.c at a0 a1 a2 a3 b0 b1 b2 b3
        simp at a0 a1 a2 a3 b0 b1 b2 b3
        go_wp2_with fail
        refine (HT1.out _ HK1.out).mono ?_
        rintro e w2 ⟨rfl, hb2⟩
        have HK2 := Lib.hid (HK1.out.keep hb2)
        clear a0 a1 a2 a3 b0 b1 b2 b3
        have a0 := HK2.out.2.2.1.cell 0
        have a1 := HK2.out.2.2.1.cell 1
        have a2 := HK2.out.2.2.1.cell 2
        have a3 := HK2.out.2.2.1.cell 3
        have b0 := HK2.out.2.2.2.1.cell 0
        have b1 := HK2.out.2.2.2.1.cell 1
        have b2 := HK2.out.2.2.2.1.cell 2
        have b3 := HK2.out.2.2.2.1.cell 3
        unfold Nd.c at a0 a1 a2 a3 b0 b1 b2 b3
        simp at a0 a1 a2 a3 b0 b1 b2 b3
        go_wp2_with fail
        refine (HT2.out _ HK2.out).mono ?_
        rintro e w3 ⟨rfl, hb3⟩
        have HK3 := Lib.hid (HK2.out.keep hb3)
        clear a0 a1 a2 a3 b0 b1 b2 b3
        have a0 := HK3.out.2.2.1.cell 0
        have a1 := HK3.out.2.2.1.cell 1
        have a2 := HK3.out.2.2.1.cell 2
        have a3 := HK3.out.2.2.1.cell 3
        have b0 := HK3.out.2.2.2.1.cell 0
        have b1 := HK3.out.2.2.2.1.cell 1
        have b2 := HK3.out.2.2.2.1.cell 2
        have b3 := HK3.out.2.2.2.1.cell 3
        unfold Nd.c at a0 a1 a2 a3 b0 b1 b2 b3
        simp at a0 a1 a2 a3 b0 b1 b2 b3
        go_wp2_with fail
        refine (HCL.out _).mono ?_
        rintro e w4 ⟨rfl, hb4⟩
        go_wp2_with fail
        go_ret2
        exact ⟨rfl, (HK3.out.keep hb4).2.2.2.2⟩
/-- a print and two nodes, in their boxes -/
def Boxes3 (w : World) (was : Pr) (a b : Nd) (W : World) : Prop :=
  Blk W w.heap.size 64 was.c ∧ Blk W (w.heap.size + 1) 66 a.c ∧ Blk W (w.heap.size + 1 + 1) 66 b.c ∧ Below w.heap.size w W
theorem Boxes3.keep {w : World} {was : Pr} {a b : Nd} (W W' : World) (h : Boxes3 w was a b W) (hb : Below W.heap.size W W') : Boxes3 w was a b W' :=
  ⟨h.1.below hb h.1.lt, h.2.1.below hb h.2.1.lt, h.2.2.1.below hb h.2.2.1.lt, h.2.2.2.trans (hb.mono h.2.2.2.size)⟩
theorem Boxes3.new (w : World) (was : Pr) (a b : Nd) : Boxes3 w was a b (((w.alloc (.cells was.c 64)).alloc (.cells a.c 66)).alloc (.cells b.c 66)) :=
  ⟨(blk_fst _ _ _ _).alloc _, blk_mid _ _ _ _ _, blk_trd _ _ _ _ _, ((((Below.refl _ _).alloc (Nat.le_refl _) _).alloc (by simp) _).alloc (by simp; omega) _)⟩
set_option maxRecDepth 100000 in
set_option maxHeartbeats 8000000 in
theorem refDecide_any (w : World) (was : Pr) (had : Bool) (a b : Nd) (ha : a.data.size ≤ maxLen) (hb : b.data.size ≤ maxLen) :
    Calls Try.prog 37 #[.agg was.c, .bool had, .agg a.c, .agg b.c] w fun e w' => e = .returned (.tuple #[.int .i64 (decideN was had a b).1, .int .i64 (decideN was had a b).2]) ∧ Below w.heap.size w w' := by
  have hA := fun W => refPrint_any W a ha
  have hB := fun W => refPrint_any W b hb
  have hEQ := fun W => eq_print (printN a) (printN b) W
  have hT1 := fun W => refState_any W was had a ha
  have hT2 := fun W => refState_any W was had b hb
  have hCL := fun W => refClass_any W a b
  have hB0 := Boxes3.new w was a b
  have hdec : decideN was had a b = if decide (printN a = printN b) = true then (0, 0) else if stateN was had a = 0 then (1, 0) else if stateN was had b = 0 then (2, 0) else (3, classN a b) := by
    unfold decideN; simp only [decide_eq_true_eq]
  rw [hdec]
  clear hdec
  generalize printN a = p at *
  generalize printN b = q at *
  generalize decide (p = q) = r1 at *
  generalize stateN was had a = s1 at *
  generalize stateN was had b = s2 at *
  generalize classN a b = cl at *
  have HB0 := Lib.hid hB0; clear hB0
  have q0 : ∀ x : Held (Boxes3 w was a b), (HeldW x).cell? ⟨w.heap.size, 0, none⟩ = some (.int .i64 was.kind) := fun x => ((HeldW_spec x).1).cell 0
  have q1 : ∀ x : Held (Boxes3 w was a b), (HeldW x).cell? ⟨w.heap.size, 1, none⟩ = some (.int .i64 was.mode) := fun x => ((HeldW_spec x).1).cell 1
  have q2 : ∀ x : Held (Boxes3 w was a b), (HeldW x).cell? ⟨w.heap.size, 2, none⟩ = some (.int .u32 was.time) := fun x => ((HeldW_spec x).1).cell 2
  have q3 : ∀ x : Held (Boxes3 w was a b), (HeldW x).cell? ⟨w.heap.size, 3, none⟩ = some (.int .i64 was.size) := fun x => ((HeldW_spec x).1).cell 3
  have q4 : ∀ x : Held (Boxes3 w was a b), (HeldW x).cell? ⟨w.heap.size, 4, none⟩ = some (.int .u32 was.sum) := fun x => ((HeldW_spec x).1).cell 4
  have m0 : ∀ x : Held (Boxes3 w was a b), (HeldW x).cell? ⟨w.heap.size + 1, 0, none⟩ = some (.int .i64 a.kind) := fun x => ((HeldW_spec x).2.1).cell 0
  have m1 : ∀ x : Held (Boxes3 w was a b), (HeldW x).cell? ⟨w.heap.size + 1, 1, none⟩ = some (.int .i64 a.mode) := fun x => ((HeldW_spec x).2.1).cell 1
  have m2 : ∀ x : Held (Boxes3 w was a b), (HeldW x).cell? ⟨w.heap.size + 1, 2, none⟩ = some (.int .u32 a.time) := fun x => ((HeldW_spec x).2.1).cell 2
  have m3 : ∀ x : Held (Boxes3 w was a b), (HeldW x).cell? ⟨w.heap.size + 1, 3, none⟩ = some (.string a.data) := fun x => ((HeldW_spec x).2.1).cell 3
  have n0 : ∀ x : Held (Boxes3 w was a b), (HeldW x).cell? ⟨w.heap.size + 1 + 1, 0, none⟩ = some (.int .i64 b.kind) := fun x => ((HeldW_spec x).2.2.1).cell 0
  have n1 : ∀ x : Held (Boxes3 w was a b), (HeldW x).cell? ⟨w.heap.size + 1 + 1, 1, none⟩ = some (.int .i64 b.mode) := fun x => ((HeldW_spec x).2.2.1).cell 1
  have n2 : ∀ x : Held (Boxes3 w was a b), (HeldW x).cell? ⟨w.heap.size + 1 + 1, 2, none⟩ = some (.int .u32 b.time) := fun x => ((HeldW_spec x).2.2.1).cell 2
  have n3 : ∀ x : Held (Boxes3 w was a b), (HeldW x).cell? ⟨w.heap.size + 1 + 1, 3, none⟩ = some (.string b.data) := fun x => ((HeldW_spec x).2.2.1).cell 3
  haveI : Nonempty (Held (Boxes3 w was a b)) := held_some HB0.out
  unfold Nd.c Pr.c at *
  have HA := Lib.hid hA; clear hA
  have HB := Lib.hid hB; clear hB
  have HT1 := Lib.hid hT1; clear hT1
  have HT2 := Lib.hid hT2; clear hT2
  have HCL := Lib.hid hCL; clear hCL
  cases r1 with
  | true =>
    rw [if_pos rfl]
    go_enter Try.func37, Try.ntmps37
    go_wp2_with fail
    refine wp_region_class (Boxes3 w was a b) (by kernel_rfl) (by kernel_rfl) (by have h := HB0.out; exact ⟨h.1, h.2.1, h.2.2.1, h.2.2.2.drew⟩) ?_
    repeat (go_big_quiet_step (first | with_reducible exact held_below Boxes3.keep (HA.out _) | with_reducible exact held_below Boxes3.keep (HB.out _)))
    refine wpQuiet_nil ?_
    rintro _ ⟨nn, rfl⟩
    have HK1 := Lib.hid (HeldW_spec nn)
    generalize HeldW nn = w1 at *
    go_wp2_with fail
    go_ret2
    exact ⟨rfl, HK1.out.2.2.2⟩
  | false =>
    rw [if_neg (by simp)]
    by_cases hs1 : s1 = 0
    · have hzs1 : (s1 == 0) = true := by rw [beq_iff_eq]; exact hs1
      rw [if_pos hs1]
      clear hs1
      go_enter Try.func37, Try.ntmps37
      go_wp2_with fail
      refine wp_region_class (Boxes3 w was a b) (by kernel_rfl) (by kernel_rfl) (by have h := HB0.out; exact ⟨h.1, h.2.1, h.2.2.1, h.2.2.2.drew⟩) ?_
      repeat (go_big_quiet_step (first | with_reducible exact held_below Boxes3.keep (HA.out _) | with_reducible exact held_below Boxes3.keep (HB.out _)))
      refine wpQuiet_nil ?_
      rintro _ ⟨nn, rfl⟩
      have HK1 := Lib.hid (HeldW_spec nn)
      generalize HeldW nn = w1 at *
      have c0 := HK1.out.1.cell 0
      have c1 := HK1.out.1.cell 1
      have c2 := HK1.out.1.cell 2
      have c3 := HK1.out.1.cell 3
      have c4 := HK1.out.1.cell 4
      have a0 := HK1.out.2.1.cell 0
      have a1 := HK1.out.2.1.cell 1
      have a2 := HK1.out.2.1.cell 2
      have a3 := HK1.out.2.1.cell 3
      have b0 := HK1.out.2.2.1.cell 0
      have b1 := HK1.out.2.2.1.cell 1
      have b2 := HK1.out.2.2.1.cell 2
      have b3 := HK1.out.2.2.1.cell 3
      unfold Pr.c at c0 c1 c2 c3 c4
      unfold Nd.c at a0 a1 a2 a3 b0 b1 b2 b3
      simp at c0 c1 c2 c3 c4 a0 a1 a2 a3 b0 b1 b2 b3
      go_wp2_with fail
      refine (HT1.out _).mono ?_
      rintro e w2 ⟨rfl, hb2⟩
      have HK2 := Lib.hid (HK1.out.keep _ _ hb2)
      clear c0 c1 c2 c3 c4 a0 a1 a2 a3 b0 b1 b2 b3
      go_wp2_with fail
      go_ret2
      exact ⟨rfl, HK2.out.2.2.2⟩
    · have hzs1 : (s1 == 0) = false := by rw [beq_eq_false_iff_ne]; exact hs1
      rw [if_neg hs1]
      clear hs1
      by_cases hs2 : s2 = 0
      · have hzs2 : (s2 == 0) = true := by rw [beq_iff_eq]; exact hs2
        rw [if_pos hs2]
        clear hs2
        go_enter Try.func37, Try.ntmps37
        go_wp2_with fail
        refine wp_region_class (Boxes3 w was a b) (by kernel_rfl) (by kernel_rfl) (by have h := HB0.out; exact ⟨h.1, h.2.1, h.2.2.1, h.2.2.2.drew⟩) ?_
        repeat (go_big_quiet_step (first | with_reducible exact held_below Boxes3.keep (HA.out _) | with_reducible exact held_below Boxes3.keep (HB.out _)))
        refine wpQuiet_nil ?_
        rintro _ ⟨nn, rfl⟩
        have HK1 := Lib.hid (HeldW_spec nn)
        generalize HeldW nn = w1 at *
        have c0 := HK1.out.1.cell 0
        have c1 := HK1.out.1.cell 1
        have c2 := HK1.out.1.cell 2
        have c3 := HK1.out.1.cell 3
        have c4 := HK1.out.1.cell 4
        have a0 := HK1.out.2.1.cell 0
        have a1 := HK1.out.2.1.cell 1
        have a2 := HK1.out.2.1.cell 2
        have a3 := HK1.out.2.1.cell 3
        have b0 := HK1.out.2.2.1.cell 0
        have b1 := HK1.out.2.2.1.cell 1
        have b2 := HK1.out.2.2.1.cell 2
        have b3 := HK1.out.2.2.1.cell 3
        unfold Pr.c at c0 c1 c2 c3 c4
        unfold Nd.c at a0 a1 a2 a3 b0 b1 b2 b3
        simp at c0 c1 c2 c3 c4 a0 a1 a2 a3 b0 b1 b2 b3
        go_wp2_with fail
        refine (HT1.out _).mono ?_
        rintro e w2 ⟨rfl, hb2⟩
        have HK2 := Lib.hid (HK1.out.keep _ _ hb2)
        clear c0 c1 c2 c3 c4 a0 a1 a2 a3 b0 b1 b2 b3
        have c0 := HK2.out.1.cell 0
        have c1 := HK2.out.1.cell 1
        have c2 := HK2.out.1.cell 2
        have c3 := HK2.out.1.cell 3
        have c4 := HK2.out.1.cell 4
        have a0 := HK2.out.2.1.cell 0
        have a1 := HK2.out.2.1.cell 1
        have a2 := HK2.out.2.1.cell 2
        have a3 := HK2.out.2.1.cell 3
        have b0 := HK2.out.2.2.1.cell 0
        have b1 := HK2.out.2.2.1.cell 1
        have b2 := HK2.out.2.2.1.cell 2
        have b3 := HK2.out.2.2.1.cell 3
        unfold Pr.c at c0 c1 c2 c3 c4
        unfold Nd.c at a0 a1 a2 a3 b0 b1 b2 b3
        simp at c0 c1 c2 c3 c4 a0 a1 a2 a3 b0 b1 b2 b3
        go_wp2_with fail
        refine (HT2.out _).mono ?_
        rintro e w3 ⟨rfl, hb3⟩
        have HK3 := Lib.hid (HK2.out.keep _ _ hb3)
        clear c0 c1 c2 c3 c4 a0 a1 a2 a3 b0 b1 b2 b3
        go_wp2_with fail
        go_ret2
        exact ⟨rfl, HK3.out.2.2.2⟩
      · have hzs2 : (s2 == 0) = false := by rw [beq_eq_false_iff_ne]; exact hs2
        rw [if_neg hs2]
        clear hs2
        go_enter Try.func37, Try.ntmps37
        go_wp2_with fail
        refine wp_region_class (Boxes3 w was a b) (by kernel_rfl) (by kernel_rfl) (by have h := HB0.out; exact ⟨h.1, h.2.1, h.2.2.1, h.2.2.2.drew⟩) ?_
        repeat (go_big_quiet_step (first | with_reducible exact held_below Boxes3.keep (HA.out _) | with_reducible exact held_below Boxes3.keep (HB.out _)))
        refine wpQuiet_nil ?_
        rintro _ ⟨nn, rfl⟩
        have HK1 := Lib.hid (HeldW_spec nn)
        generalize HeldW nn = w1 at *
        have c0 := HK1.out.1.cell 0
        have c1 := HK1.out.1.cell 1
        have c2 := HK1.out.1.cell 2
        have c3 := HK1.out.1.cell 3
        have c4 := HK1.out.1.cell 4
        have a0 := HK1.out.2.1.cell 0
        have a1 := HK1.out.2.1.cell 1
        have a2 := HK1.out.2.1.cell 2
        have a3 := HK1.out.2.1.cell 3
        have b0 := HK1.out.2.2.1.cell 0
        have b1 := HK1.out.2.2.1.cell 1
        have b2 := HK1.out.2.2.1.cell 2
        have b3 := HK1.out.2.2.1.cell 3
        unfold Pr.c at c0 c1 c2 c3 c4
        unfold Nd.c at a0 a1 a2 a3 b0 b1 b2 b3
        simp at c0 c1 c2 c3 c4 a0 a1 a2 a3 b0 b1 b2 b3
        go_wp2_with fail
        refine (HT1.out _).mono ?_
        rintro e w2 ⟨rfl, hb2⟩
        have HK2 := Lib.hid (HK1.out.keep _ _ hb2)
        clear c0 c1 c2 c3 c4 a0 a1 a2 a3 b0 b1 b2 b3
        have c0 := HK2.out.1.cell 0
        have c1 := HK2.out.1.cell 1
        have c2 := HK2.out.1.cell 2
        have c3 := HK2.out.1.cell 3
        have c4 := HK2.out.1.cell 4
        have a0 := HK2.out.2.1.cell 0
        have a1 := HK2.out.2.1.cell 1
        have a2 := HK2.out.2.1.cell 2
        have a3 := HK2.out.2.1.cell 3
        have b0 := HK2.out.2.2.1.cell 0
        have b1 := HK2.out.2.2.1.cell 1
        have b2 := HK2.out.2.2.1.cell 2
        have b3 := HK2.out.2.2.1.cell 3
        unfold Pr.c at c0 c1 c2 c3 c4
        unfold Nd.c at a0 a1 a2 a3 b0 b1 b2 b3
        simp at c0 c1 c2 c3 c4 a0 a1 a2 a3 b0 b1 b2 b3
        go_wp2_with fail
        refine (HT2.out _).mono ?_
        rintro e w3 ⟨rfl, hb3⟩
        have HK3 := Lib.hid (HK2.out.keep _ _ hb3)
        clear c0 c1 c2 c3 c4 a0 a1 a2 a3 b0 b1 b2 b3
        have c0 := HK3.out.1.cell 0
        have c1 := HK3.out.1.cell 1
        have c2 := HK3.out.1.cell 2
        have c3 := HK3.out.1.cell 3
        have c4 := HK3.out.1.cell 4
        have a0 := HK3.out.2.1.cell 0
        have a1 := HK3.out.2.1.cell 1
        have a2 := HK3.out.2.1.cell 2
        have a3 := HK3.out.2.1.cell 3
        have b0 := HK3.out.2.2.1.cell 0
        have b1 := HK3.out.2.2.1.cell 1
        have b2 := HK3.out.2.2.1.cell 2
        have b3 := HK3.out.2.2.1.cell 3
        unfold Pr.c at c0 c1 c2 c3 c4
        unfold Nd.c at a0 a1 a2 a3 b0 b1 b2 b3
        simp at c0 c1 c2 c3 c4 a0 a1 a2 a3 b0 b1 b2 b3
        go_wp2_with fail
        refine (HCL.out _).mono ?_
        rintro e w4 ⟨rfl, hb4⟩
        have HK4 := Lib.hid (HK3.out.keep _ _ hb4)
        clear c0 c1 c2 c3 c4 a0 a1 a2 a3 b0 b1 b2 b3
        go_wp2_with fail
        go_ret2
        exact ⟨rfl, HK4.out.2.2.2⟩
end Go.Proofs.Ytpnkgldpmalklaa
