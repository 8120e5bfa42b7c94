/- Several texts, joined for the limit of sixty files; each one opens with its own comment. -/
import Derived.Test.YtlfeeiloijmagaaGreatDoorJoin25
import Derived.Test.YtlfeeiloijmagaaGreatDoorJoin17
import Derived.Test.YtlfeeiloijmagaaGreatDoorJoin22
import Derived.Test.YtlfeeiloijmagaaGreatDoorJoin24
import Derived.Test.YtlfeeiloijmagaaGreatDoorJoin21
import Derived.Test.YtlfeeiloijmagaaGreatDoorJoin2
import Derived.Test.YtlfeeiloijmagaaGreatDoorRows
/- Contracts of recon.Decide and of the reference's. -/
set_option linter.unusedVariables false
set_option linter.unusedSimpArgs false
namespace Go.Proofs.YtlfeeiloijmagaaGreatDoor
open Go.RowKit
open Sw
/-- a print, whether there is one, and two nodes, in their boxes -/
def Boxes4 (w : World) (was : Pr) (had : Bool) (a b : Nd) (W : World) : Prop :=
  Blk W w.heap.size 62 was.c ∧ Blk W (w.heap.size + 1) 4 #[.bool had] ∧ Blk W (w.heap.size + 1 + 1) 38 a.c ∧ Blk W (w.heap.size + 1 + 1 + 1) 38 b.c ∧ Below w.heap.size w W
theorem Boxes4.keep {w : World} {was : Pr} {had : Bool} {a b : Nd} {W W' : World} (h : Boxes4 w was had a b W) (hb : Below W.heap.size W W') : Boxes4 w was had a b W' :=
  ⟨h.1.below hb h.1.lt, h.2.1.below hb h.2.1.lt, h.2.2.1.below hb h.2.2.1.lt, h.2.2.2.1.below hb h.2.2.2.1.lt, h.2.2.2.2.trans (hb.mono h.2.2.2.2.size)⟩
theorem Boxes4.new (w : World) (was : Pr) (had : Bool) (a b : Nd) : Boxes4 w was had a b ((((w.alloc (.cells was.c 62)).alloc (.cells #[.bool had] 4)).alloc (.cells a.c 38)).alloc (.cells b.c 38)) :=
  ⟨(blk_fst _ _ _ _).alloc _ |>.alloc _, (blk_mid _ _ _ _ _).alloc _, (blk_trd _ _ _ _ _).alloc _, by
    have h := blk_trd (w.alloc (.cells was.c 62)) (.cells #[.bool had] 4) (.cells a.c 38) b.c 38
    rw [World.size_alloc] at h
    exact h, (((((Below.refl _ _).alloc (Nat.le_refl _) _).alloc (by simp) _).alloc (by simp; omega) _).alloc (by simp; omega) _)⟩
theorem decide_two (b : Bool) : decide (b = true) = b := by cases b <;> rfl
set_option maxRecDepth 100000 in
set_option maxHeartbeats 4000000 in
theorem decide_any (w : World) (was : Pr) (had : Bool) (a b : Nd) (ha : a.data.size ≤ maxLen) (hb : b.data.size ≤ maxLen) :
    Calls Tryz.prog 47 #[.agg was.c, .bool had, .agg a.c, .agg b.c] w fun e w' => e = .returned (.tuple #[.int .i64 (decideN was had a b).1, .int .i64 (decideN was had a b).2]) ∧ Below w.heap.size w w' := by
  have hSA := fun W => nodeSame_any W a b ha hb
  have hT1 := fun W (h : Boxes4 w was had a b W) => still_any W w.heap.size (w.heap.size + 1) was had a ha h.1 h.2.1
  have hT2 := fun W (h : Boxes4 w was had a b W) => still_any W w.heap.size (w.heap.size + 1) was had b hb h.1 h.2.1
  have hCL := fun W => class_any W a b
  have hB0 := Boxes4.new w was had a b
  have hdec : decideN was had a b = if decide (printN a = printN b) = true then (0, 0) else if decide (stateN was had a = 0) = true then (1, 0) else if decide (stateN was had b = 0) = true then (2, 0) else (3, classN a b) := by
    unfold decideN; simp only [decide_eq_true_eq]
  rw [hdec]
  clear hdec
  generalize decide (printN a = printN b) = r1 at *
  generalize decide (stateN was had a = 0) = r2 at *
  generalize decide (stateN was had b = 0) = r3 at *
  generalize classN a b = cl at *
  have HB0 := Lib.hid hB0; clear hB0
  have HSA := Lib.hid hSA; clear hSA
  have HT1 := Lib.hid hT1; clear hT1
  have HT2 := Lib.hid hT2; clear hT2
  have HCL := Lib.hid hCL; clear hCL
  unfold Pr.c Nd.c at *
  cases r1 with
  | true =>
    rw [if_pos rfl]
    go_enter Tryz.func47, Tryz.ntmps47
    go_wp2_with fail
    refine (HSA.out _).mono ?_
    rintro e w1 ⟨rfl, hb1⟩
    have HK1 := Lib.hid (HB0.out.keep hb1)
    go_wp2_with fail
    go_ret2
    exact ⟨rfl, HK1.out.2.2.2.2⟩
  | false =>
    rw [if_neg (by simp)]
    cases r2 with
    | true =>
      rw [if_pos rfl]
      go_enter Tryz.func47, Tryz.ntmps47
      go_wp2_with fail
      refine (HSA.out _).mono ?_
      rintro e w1 ⟨rfl, hb1⟩
      have HK1 := Lib.hid (HB0.out.keep hb1)
      have a0 := HK1.out.2.2.1.cell 0
      have a1 := HK1.out.2.2.1.cell 1
      have a2 := HK1.out.2.2.1.cell 2
      have a3 := HK1.out.2.2.1.cell 3
      have b0 := HK1.out.2.2.2.1.cell 0
      have b1 := HK1.out.2.2.2.1.cell 1
      have b2 := HK1.out.2.2.2.1.cell 2
      have b3 := HK1.out.2.2.2.1.cell 3
      unfold Nd.c at a0 a1 a2 a3 b0 b1 b2 b3
      simp at a0 a1 a2 a3 b0 b1 b2 b3
      go_wp2_with fail
      refine (HT1.out _ HK1.out).mono ?_
      rintro e w2 ⟨rfl, hb2⟩
      have HK2 := Lib.hid (HK1.out.keep hb2)
      go_wp2_with fail
      go_ret2
      exact ⟨rfl, HK2.out.2.2.2.2⟩
    | false =>
      rw [if_neg (by simp)]
      cases r3 with
      | true =>
        rw [if_pos rfl]
        go_enter Tryz.func47, Tryz.ntmps47
        go_wp2_with fail
        refine (HSA.out _).mono ?_
        rintro e w1 ⟨rfl, hb1⟩
        have HK1 := Lib.hid (HB0.out.keep hb1)
        have a0 := HK1.out.2.2.1.cell 0
        have a1 := HK1.out.2.2.1.cell 1
        have a2 := HK1.out.2.2.1.cell 2
        have a3 := HK1.out.2.2.1.cell 3
        have b0 := HK1.out.2.2.2.1.cell 0
        have b1 := HK1.out.2.2.2.1.cell 1
        have b2 := HK1.out.2.2.2.1.cell 2
        have b3 := HK1.out.2.2.2.1.cell 3
        unfold Nd.c at a0 a1 a2 a3 b0 b1 b2 b3
        simp at a0 a1 a2 a3 b0 b1 b2 b3
        go_wp2_with fail
        refine (HT1.out _ HK1.out).mono ?_
        rintro e w2 ⟨rfl, hb2⟩
        have HK2 := Lib.hid (HK1.out.keep hb2)
        clear a0 a1 a2 a3 b0 b1 b2 b3
        have a0 := HK2.out.2.2.1.cell 0
        have a1 := HK2.out.2.2.1.cell 1
        have a2 := HK2.out.2.2.1.cell 2
        have a3 := HK2.out.2.2.1.cell 3
        have b0 := HK2.out.2.2.2.1.cell 0
        have b1 := HK2.out.2.2.2.1.cell 1
        have b2 := HK2.out.2.2.2.1.cell 2
        have b3 := HK2.out.2.2.2.1.cell 3
        unfold Nd.c at a0 a1 a2 a3 b0 b1 b2 b3
        simp at a0 a1 a2 a3 b0 b1 b2 b3
        go_wp2_with fail
        refine (HT2.out _ HK2.out).mono ?_
        rintro e w3 ⟨rfl, hb3⟩
        have HK3 := Lib.hid (HK2.out.keep hb3)
        clear a0 a1 a2 a3 b0 b1 b2 b3
        go_wp2_with fail
        go_ret2
        exact ⟨rfl, HK3.out.2.2.2.2⟩
      | false =>
        rw [if_neg (by simp)]
        go_enter Tryz.func47, Tryz.ntmps47
        go_wp2_with fail
        refine (HSA.out _).mono ?_
        rintro e w1 ⟨rfl, hb1⟩
        have HK1 := Lib.hid (HB0.out.keep hb1)
        have a0 := HK1.out.2.2.1.cell 0
        have a1 := HK1.out.2.2.1.cell 1
        have a2 := HK1.out.2.2.1.cell 2
        have a3 := HK1.out.2.2.1.cell 3
        have b0 := HK1.out.2.2.2.1.cell 0
        have b1 := HK1.out.2.2.2.1.cell 1
        have b2 := HK1.out.2.2.2.1.cell 2
        have b3 := HK1.out.2.2.2.1.cell 3
        unfold Nd.c at a0 a1 a2 a3 b0 b1 b2 b3
        simp at a0 a1 a2 a3 b0 b1 b2 b3
        go_wp2_with fail
        refine (HT1.out _ HK1.out).mono ?_
        rintro e w2 ⟨rfl, hb2⟩
        have HK2 := Lib.hid (HK1.out.keep hb2)
        clear a0 a1 a2 a3 b0 b1 b2 b3
        have a0 := HK2.out.2.2.1.cell 0
        have a1 := HK2.out.2.2.1.cell 1
        have a2 := HK2.out.2.2.1.cell 2
        have a3 := HK2.out.2.2.1.cell 3
        have b0 := HK2.out.2.2.2.1.cell 0
        have b1 := HK2.out.2.2.2.1.cell 1
        have b2 := HK2.out.2.2.2.1.cell 2
        have b3 := HK2.out.2.2.2.1.cell 3
        unfold Nd.c at a0 a1 a2 a3 b0 b1 b2 b3
        simp at a0 a1 a2 a3 b0 b1 b2 b3
        go_wp2_with fail
        refine (HT2.out _ HK2.out).mono ?_
        rintro e w3 ⟨rfl, hb3⟩
        have HK3 := Lib.hid (HK2.out.keep hb3)
        clear a0 a1 a2 a3 b0 b1 b2 b3
        have a0 := HK3.out.2.2.1.cell 0
        have a1 := HK3.out.2.2.1.cell 1
        have a2 := HK3.out.2.2.1.cell 2
        have a3 := HK3.out.2.2.1.cell 3
        have b0 := HK3.out.2.2.2.1.cell 0
        have b1 := HK3.out.2.2.2.1.cell 1
        have b2 := HK3.out.2.2.2.1.cell 2
        have b3 := HK3.out.2.2.2.1.cell 3
        unfold Nd.c at a0 a1 a2 a3 b0 b1 b2 b3
        simp at a0 a1 a2 a3 b0 b1 b2 b3
        go_wp2_with fail
        refine (HCL.out _).mono ?_
        rintro e w4 ⟨rfl, hb4⟩
        go_wp2_with fail
        go_ret2
        exact ⟨rfl, (HK3.out.keep hb4).2.2.2.2⟩
/-- a print and two nodes, in their boxes -/
def Boxes3 (w : World) (was : Pr) (a b : Nd) (W : World) : Prop :=
  Blk W w.heap.size 62 was.c ∧ Blk W (w.heap.size + 1) 38 a.c ∧ Blk W (w.heap.size + 1 + 1) 38 b.c ∧ Below w.heap.size w W
theorem Boxes3.keep {w : World} {was : Pr} {a b : Nd} (W W' : World) (h : Boxes3 w was a b W) (hb : Below W.heap.size W W') : Boxes3 w was a b W' :=
  ⟨h.1.below hb h.1.lt, h.2.1.below hb h.2.1.lt, h.2.2.1.below hb h.2.2.1.lt, h.2.2.2.trans (hb.mono h.2.2.2.size)⟩
theorem Boxes3.new (w : World) (was : Pr) (a b : Nd) : Boxes3 w was a b (((w.alloc (.cells was.c 62)).alloc (.cells a.c 38)).alloc (.cells b.c 38)) :=
  ⟨(blk_fst _ _ _ _).alloc _, blk_mid _ _ _ _ _, blk_trd _ _ _ _ _, ((((Below.refl _ _).alloc (Nat.le_refl _) _).alloc (by simp) _).alloc (by simp; omega) _)⟩
set_option maxRecDepth 100000 in
set_option maxHeartbeats 8000000 in
theorem refDecide_any (w : World) (was : Pr) (had : Bool) (a b : Nd) (ha : a.data.size ≤ maxLen) (hb : b.data.size ≤ maxLen) :
    Calls Tryz.prog 23 #[.agg was.c, .bool had, .agg a.c, .agg b.c] w fun e w' => e = .returned (.tuple #[.int .i64 (decideN was had a b).1, .int .i64 (decideN was had a b).2]) ∧ Below w.heap.size w w' := by
  have hA := fun W => refPrint_any W a ha
  have hB := fun W => refPrint_any W b hb
  have hEQ := fun W => eq_print (printN a) (printN b) W
  have hT1 := fun W => refState_any W was had a ha
  have hT2 := fun W => refState_any W was had b hb
  have hCL := fun W => refClass_any W a b
  have hB0 := Boxes3.new w was a b
  have hdec : decideN was had a b = if decide (printN a = printN b) = true then (0, 0) else if stateN was had a = 0 then (1, 0) else if stateN was had b = 0 then (2, 0) else (3, classN a b) := by
    unfold decideN; simp only [decide_eq_true_eq]
  rw [hdec]
  clear hdec
  generalize printN a = p at *
  generalize printN b = q at *
  generalize decide (p = q) = r1 at *
  generalize stateN was had a = s1 at *
  generalize stateN was had b = s2 at *
  generalize classN a b = cl at *
  have HB0 := Lib.hid hB0; clear hB0
  have q0 : ∀ x : Held (Boxes3 w was a b), (HeldW x).cell? ⟨w.heap.size, 0, none⟩ = some (.int .i64 was.kind) := fun x => ((HeldW_spec x).1).cell 0
  have q1 : ∀ x : Held (Boxes3 w was a b), (HeldW x).cell? ⟨w.heap.size, 1, none⟩ = some (.int .i64 was.mode) := fun x => ((HeldW_spec x).1).cell 1
  have q2 : ∀ x : Held (Boxes3 w was a b), (HeldW x).cell? ⟨w.heap.size, 2, none⟩ = some (.int .u32 was.time) := fun x => ((HeldW_spec x).1).cell 2
  have q3 : ∀ x : Held (Boxes3 w was a b), (HeldW x).cell? ⟨w.heap.size, 3, none⟩ = some (.int .i64 was.size) := fun x => ((HeldW_spec x).1).cell 3
  have q4 : ∀ x : Held (Boxes3 w was a b), (HeldW x).cell? ⟨w.heap.size, 4, none⟩ = some (.int .u32 was.sum) := fun x => ((HeldW_spec x).1).cell 4
  have m0 : ∀ x : Held (Boxes3 w was a b), (HeldW x).cell? ⟨w.heap.size + 1, 0, none⟩ = some (.int .i64 a.kind) := fun x => ((HeldW_spec x).2.1).cell 0
  have m1 : ∀ x : Held (Boxes3 w was a b), (HeldW x).cell? ⟨w.heap.size + 1, 1, none⟩ = some (.int .i64 a.mode) := fun x => ((HeldW_spec x).2.1).cell 1
  have m2 : ∀ x : Held (Boxes3 w was a b), (HeldW x).cell? ⟨w.heap.size + 1, 2, none⟩ = some (.int .u32 a.time) := fun x => ((HeldW_spec x).2.1).cell 2
  have m3 : ∀ x : Held (Boxes3 w was a b), (HeldW x).cell? ⟨w.heap.size + 1, 3, none⟩ = some (.string a.data) := fun x => ((HeldW_spec x).2.1).cell 3
  have n0 : ∀ x : Held (Boxes3 w was a b), (HeldW x).cell? ⟨w.heap.size + 1 + 1, 0, none⟩ = some (.int .i64 b.kind) := fun x => ((HeldW_spec x).2.2.1).cell 0
  have n1 : ∀ x : Held (Boxes3 w was a b), (HeldW x).cell? ⟨w.heap.size + 1 + 1, 1, none⟩ = some (.int .i64 b.mode) := fun x => ((HeldW_spec x).2.2.1).cell 1
  have n2 : ∀ x : Held (Boxes3 w was a b), (HeldW x).cell? ⟨w.heap.size + 1 + 1, 2, none⟩ = some (.int .u32 b.time) := fun x => ((HeldW_spec x).2.2.1).cell 2
  have n3 : ∀ x : Held (Boxes3 w was a b), (HeldW x).cell? ⟨w.heap.size + 1 + 1, 3, none⟩ = some (.string b.data) := fun x => ((HeldW_spec x).2.2.1).cell 3
  haveI : Nonempty (Held (Boxes3 w was a b)) := held_some HB0.out
  unfold Nd.c Pr.c at *
  have HA := Lib.hid hA; clear hA
  have HB := Lib.hid hB; clear hB
  have HT1 := Lib.hid hT1; clear hT1
  have HT2 := Lib.hid hT2; clear hT2
  have HCL := Lib.hid hCL; clear hCL
  cases r1 with
  | true =>
    rw [if_pos rfl]
    go_enter Tryz.func23, Tryz.ntmps23
    go_wp2_with fail
    refine wp_region_class (Boxes3 w was a b) (by kernel_rfl) (by kernel_rfl) (by have h := HB0.out; exact ⟨h.1, h.2.1, h.2.2.1, h.2.2.2.drew⟩) ?_
    repeat (go_big_quiet_step (first | with_reducible exact held_below Boxes3.keep (HA.out _) | with_reducible exact held_below Boxes3.keep (HB.out _)))
    refine wpQuiet_nil ?_
    rintro _ ⟨nn, rfl⟩
    have HK1 := Lib.hid (HeldW_spec nn)
    generalize HeldW nn = w1 at *
    go_wp2_with fail
    go_ret2
    exact ⟨rfl, HK1.out.2.2.2⟩
  | false =>
    rw [if_neg (by simp)]
    by_cases hs1 : s1 = 0
    · have hzs1 : (s1 == 0) = true := by rw [beq_iff_eq]; exact hs1
      rw [if_pos hs1]
      clear hs1
      go_enter Tryz.func23, Tryz.ntmps23
      go_wp2_with fail
      refine wp_region_class (Boxes3 w was a b) (by kernel_rfl) (by kernel_rfl) (by have h := HB0.out; exact ⟨h.1, h.2.1, h.2.2.1, h.2.2.2.drew⟩) ?_
      repeat (go_big_quiet_step (first | with_reducible exact held_below Boxes3.keep (HA.out _) | with_reducible exact held_below Boxes3.keep (HB.out _)))
      refine wpQuiet_nil ?_
      rintro _ ⟨nn, rfl⟩
      have HK1 := Lib.hid (HeldW_spec nn)
      generalize HeldW nn = w1 at *
      have c0 := HK1.out.1.cell 0
      have c1 := HK1.out.1.cell 1
      have c2 := HK1.out.1.cell 2
      have c3 := HK1.out.1.cell 3
      have c4 := HK1.out.1.cell 4
      have a0 := HK1.out.2.1.cell 0
      have a1 := HK1.out.2.1.cell 1
      have a2 := HK1.out.2.1.cell 2
      have a3 := HK1.out.2.1.cell 3
      have b0 := HK1.out.2.2.1.cell 0
      have b1 := HK1.out.2.2.1.cell 1
      have b2 := HK1.out.2.2.1.cell 2
      have b3 := HK1.out.2.2.1.cell 3
      unfold Pr.c at c0 c1 c2 c3 c4
      unfold Nd.c at a0 a1 a2 a3 b0 b1 b2 b3
      simp at c0 c1 c2 c3 c4 a0 a1 a2 a3 b0 b1 b2 b3
      go_wp2_with fail
      refine (HT1.out _).mono ?_
      rintro e w2 ⟨rfl, hb2⟩
      have HK2 := Lib.hid (HK1.out.keep _ _ hb2)
      clear c0 c1 c2 c3 c4 a0 a1 a2 a3 b0 b1 b2 b3
      go_wp2_with fail
      go_ret2
      exact ⟨rfl, HK2.out.2.2.2⟩
    · have hzs1 : (s1 == 0) = false := by rw [beq_eq_false_iff_ne]; exact hs1
      rw [if_neg hs1]
      clear hs1
      by_cases hs2 : s2 = 0
      · have hzs2 : (s2 == 0) = true := by rw [beq_iff_eq]; exact hs2
        rw [if_pos hs2]
        clear hs2
        go_enter Tryz.func23, Tryz.ntmps23
        go_wp2_with fail
        refine wp_region_class (Boxes3 w was a b) (by kernel_rfl) (by kernel_rfl) (by have h := HB0.out; exact ⟨h.1, h.2.1, h.2.2.1, h.2.2.2.drew⟩) ?_
        repeat (go_big_quiet_step (first | with_reducible exact held_below Boxes3.keep (HA.out _) | with_reducible exact held_below Boxes3.keep (HB.out _)))
        refine wpQuiet_nil ?_
        rintro _ ⟨nn, rfl⟩
        have HK1 := Lib.hid (HeldW_spec nn)
        generalize HeldW nn = w1 at *
        have c0 := HK1.out.1.cell 0
        have c1 := HK1.out.1.cell 1
        have c2 := HK1.out.1.cell 2
        have c3 := HK1.out.1.cell 3
        have c4 := HK1.out.1.cell 4
        have a0 := HK1.out.2.1.cell 0
        have a1 := HK1.out.2.1.cell 1
        have a2 := HK1.out.2.1.cell 2
        have a3 := HK1.out.2.1.cell 3
        have b0 := HK1.out.2.2.1.cell 0
        have b1 := HK1.out.2.2.1.cell 1
        have b2 := HK1.out.2.2.1.cell 2
        have b3 := HK1.out.2.2.1.cell 3
        unfold Pr.c at c0 c1 c2 c3 c4
        unfold Nd.c at a0 a1 a2 a3 b0 b1 b2 b3
        simp at c0 c1 c2 c3 c4 a0 a1 a2 a3 b0 b1 b2 b3
        go_wp2_with fail
        refine (HT1.out _).mono ?_
        rintro e w2 ⟨rfl, hb2⟩
        have HK2 := Lib.hid (HK1.out.keep _ _ hb2)
        clear c0 c1 c2 c3 c4 a0 a1 a2 a3 b0 b1 b2 b3
        have c0 := HK2.out.1.cell 0
        have c1 := HK2.out.1.cell 1
        have c2 := HK2.out.1.cell 2
        have c3 := HK2.out.1.cell 3
        have c4 := HK2.out.1.cell 4
        have a0 := HK2.out.2.1.cell 0
        have a1 := HK2.out.2.1.cell 1
        have a2 := HK2.out.2.1.cell 2
        have a3 := HK2.out.2.1.cell 3
        have b0 := HK2.out.2.2.1.cell 0
        have b1 := HK2.out.2.2.1.cell 1
        have b2 := HK2.out.2.2.1.cell 2
        have b3 := HK2.out.2.2.1.cell 3
        unfold Pr.c at c0 c1 c2 c3 c4
        unfold Nd.c at a0 a1 a2 a3 b0 b1 b2 b3
        simp at c0 c1 c2 c3 c4 a0 a1 a2 a3 b0 b1 b2 b3
        go_wp2_with fail
        refine (HT2.out _).mono ?_
        rintro e w3 ⟨rfl, hb3⟩
        have HK3 := Lib.hid (HK2.out.keep _ _ hb3)
        clear c0 c1 c2 c3 c4 a0 a1 a2 a3 b0 b1 b2 b3
        go_wp2_with fail
        go_ret2
        exact ⟨rfl, HK3.out.2.2.2⟩
      · have hzs2 : (s2 == 0) = false := by rw [beq_eq_false_iff_ne]; exact hs2
        rw [if_neg hs2]
        clear hs2
        go_enter Tryz.func23, Tryz.ntmps23
        go_wp2_with fail
        refine wp_region_class (Boxes3 w was a b) (by kernel_rfl) (by kernel_rfl) (by have h := HB0.out; exact ⟨h.1, h.2.1, h.2.2.1, h.2.2.2.drew⟩) ?_
        repeat (go_big_quiet_step (first | with_reducible exact held_below Boxes3.keep (HA.out _) | with_reducible exact held_below Boxes3.keep (HB.out _)))
        refine wpQuiet_nil ?_
        rintro _ ⟨nn, rfl⟩
        have HK1 := Lib.hid (HeldW_spec nn)
        generalize HeldW nn = w1 at *
        have c0 := HK1.out.1.cell 0
        have c1 := HK1.out.1.cell 1
        have c2 := HK1.out.1.cell 2
        have c3 := HK1.out.1.cell 3
        have c4 := HK1.out.1.cell 4
        have a0 := HK1.out.2.1.cell 0
        have a1 := HK1.out.2.1.cell 1
        have a2 := HK1.out.2.1.cell 2
        have a3 := HK1.out.2.1.cell 3
        have b0 := HK1.out.2.2.1.cell 0
        have b1 := HK1.out.2.2.1.cell 1
        have b2 := HK1.out.2.2.1.cell 2
        have b3 := HK1.out.2.2.1.cell 3
        unfold Pr.c at c0 c1 c2 c3 c4
        unfold Nd.c at a0 a1 a2 a3 b0 b1 b2 b3
        simp at c0 c1 c2 c3 c4 a0 a1 a2 a3 b0 b1 b2 b3
        go_wp2_with fail
        refine (HT1.out _).mono ?_
        rintro e w2 ⟨rfl, hb2⟩
        have HK2 := Lib.hid (HK1.out.keep _ _ hb2)
        clear c0 c1 c2 c3 c4 a0 a1 a2 a3 b0 b1 b2 b3
        have c0 := HK2.out.1.cell 0
        have c1 := HK2.out.1.cell 1
        have c2 := HK2.out.1.cell 2
        have c3 := HK2.out.1.cell 3
        have c4 := HK2.out.1.cell 4
        have a0 := HK2.out.2.1.cell 0
        have a1 := HK2.out.2.1.cell 1
        have a2 := HK2.out.2.1.cell 2
        have a3 := HK2.out.2.1.cell 3
        have b0 := HK2.out.2.2.1.cell 0
        have b1 := HK2.out.2.2.1.cell 1
        have b2 := HK2.out.2.2.1.cell 2
        have b3 := HK2.out.2.2.1.cell 3
        unfold Pr.c at c0 c1 c2 c3 c4
        unfold Nd.c at a0 a1 a2 a3 b0 b1 b2 b3
        simp at c0 c1 c2 c3 c4 a0 a1 a2 a3 b0 b1 b2 b3
        go_wp2_with fail
        refine (HT2.out _).mono ?_
        rintro e w3 ⟨rfl, hb3⟩
        have HK3 := Lib.hid (HK2.out.keep _ _ hb3)
        clear c0 c1 c2 c3 c4 a0 a1 a2 a3 b0 b1 b2 b3
        have c0 := HK3.out.1.cell 0
        have c1 := HK3.out.1.cell 1
        have c2 := HK3.out.1.cell 2
        have c3 := HK3.out.1.cell 3
        have c4 := HK3.out.1.cell 4
        have a0 := HK3.out.2.1.cell 0
        have a1 := HK3.out.2.1.cell 1
        have a2 := HK3.out.2.1.cell 2
        have a3 := HK3.out.2.1.cell 3
        have b0 := HK3.out.2.2.1.cell 0
        have b1 := HK3.out.2.2.1.cell 1
        have b2 := HK3.out.2.2.1.cell 2
        have b3 := HK3.out.2.2.1.cell 3
        unfold Pr.c at c0 c1 c2 c3 c4
        unfold Nd.c at a0 a1 a2 a3 b0 b1 b2 b3
        simp at c0 c1 c2 c3 c4 a0 a1 a2 a3 b0 b1 b2 b3
        go_wp2_with fail
        refine (HCL.out _).mono ?_
        rintro e w4 ⟨rfl, hb4⟩
        have HK4 := Lib.hid (HK3.out.keep _ _ hb4)
        clear c0 c1 c2 c3 c4 a0 a1 a2 a3 b0 b1 b2 b3
        go_wp2_with fail
        go_ret2
        exact ⟨rfl, HK4.out.2.2.2⟩
end Go.Proofs.YtlfeeiloijmagaaGreatDoor
/- archive.Find. -/
set_option linter.unusedVariables false
set_option linter.unusedSimpArgs false
namespace Sw
open Go
theorem toList_inj {x y : ByteArray} (h : x.toList = y.toList) : x = y := by
  rw [ByteArray.toList_eq, ByteArray.toList_eq] at h
  apply ByteArray.ext
  exact Array.ext' h
theorem str_beq (u v : ByteArray) : (u.toList == v.toList) = decide (u = v) := by
  by_cases h : u = v
  · subst h; simp
  · have : ¬ u.toList = v.toList := fun e => h (toList_inj e)
    simp [h, this]
theorem findM_at : ∀ (L : List MkE) (p : ByteArray) (i : Nat) (h : i < L.length), (∀ j (hj : j < L.length), j < i → ¬ L[j].1 = p) → L[i].1 = p → findM L p = some L[i].2
  | [], p, i, h, _, _ => absurd h (by simp)
  | m :: L, p, 0, h, _, he => by rw [findM_cons, if_pos (by simpa using he)]; rfl
  | m :: L, p, i + 1, h, hn, he => by
    have h0 := hn 0 (by simp) (by omega)
    rw [findM_cons, if_neg (by simpa using h0)]
    have := findM_at L p i (by simpa using h) (fun j hj hji => by have := hn (j + 1) (by simpa using hj) (by omega); simpa using this) (by simpa using he)
    rw [this]
    simp
end Sw
namespace Go.Proofs.YtlfeeiloijmagaaGreatDoor
open Go Go.RowKit
open Sw
set_option maxRecDepth 100000 in
set_option maxHeartbeats 8000000 in
theorem findM_any (w : World) (u1 u2 : Value) (l1 l2 : List MkE) (p : ByteArray) (h1 : SlV w 6 eCM u1 l1) (h2 : SlV w 6 eCM u2 l2) (hl1 : l1.length ≤ 100000) (hl2 : l2.length ≤ 100000) :
    Calls Tryz.prog 46 #[.agg #[u1, u2], .string p] w fun e w' => e = .returned (.tuple #[.agg ((findM (l1 ++ l2) p).getD ⟨0, 0, 0, 0, 0⟩).c, .bool (findM (l1 ++ l2) p).isSome]) ∧ Below w.heap.size w w' := by
  obtain ⟨W0, hW0⟩ : ∃ W0, ((w.alloc (.cells #[u1, u2] 24)).alloc (.cells #[.int .i64 0, .int .i64 0, .int .u32 0, .int .i64 0, .int .u32 0] 62)).alloc (.cells #[u1, u2] 22) = W0 := ⟨_, rfl⟩
  have hb2 : Below w.heap.size w W0 := by rw [← hW0]; exact (((Below.refl _ w).alloc (Nat.le_refl _) _).alloc (by simp) _).alloc (by simp; omega) _
  have hR0 : Blk W0 (w.heap.size + 1) 62 #[.int .i64 0, .int .i64 0, .int .u32 0, .int .i64 0, .int .u32 0] := by rw [← hW0]; exact (blk_snd _ _ _ _).alloc _
  have hC0 : Blk W0 (w.heap.size + 1 + 1) 22 #[u1, u2] := by rw [← hW0]; exact blk_trd _ _ _ _ _
  have HC := Lib.hid (concatM_any W0 (w.heap.size + 1 + 1) _ u1 u2 l1 l2 hC0 (h1.below hb2 (Nat.le_refl _)) (h2.below hb2 (Nat.le_refl _)) hl1 hl2)
  have HB := Lib.hid (And.intro hb2 hR0)
  have HW0 := Lib.hid hW0
  have hn : (l1 ++ l2).length ≤ 200000 := by rw [List.length_append]; omega
  obtain ⟨A1, k1, rfl, _, _, _⟩ := h1
  obtain ⟨A2, k2, rfl, _, _, _⟩ := h2
  clear hb2 hR0 hC0 hW0 hl1 hl2
  generalize l1.length = n1 at *
  generalize l2.length = n2 at *
  generalize l1 ++ l2 = L at *
  obtain ⟨n, hn2⟩ : ∃ n, L.length = n := ⟨_, rfl⟩
  rw [hn2] at HC hn
  have HL := Lib.hid hn2; clear hn2
  go_enter Tryz.func46, Tryz.ntmps46
  go_wp2_with fail
  rw [HW0.out]
  refine HC.out.mono ?_
  rintro e w3 ⟨u, rfl, ho3, hb3⟩
  obtain ⟨A3, k3, rfl, _, _, _⟩ := SlV_of_any ho3
  have hsl3 := SlV.of_own ho3 eCM_len (by decide)
  have H3 := Lib.hid (And.intro hsl3 (And.intro (HB.out.1.trans (hb3.mono HB.out.1.size)) (HB.out.2.below hb3 HB.out.2.lt))); clear hb3 ho3 hsl3 HC HB
  go_wp2_with fail
  go_loopw [15] (fun iv wr => ∃ i : Nat, i ≤ n ∧ iv = .int .i64 i ∧ (∀ j (hj : j < L.length), j < i → ¬ L[j].1 = p) ∧ Below w.heap.size w wr ∧ Below w3.heap.size w3 wr) (fun iv _ => n - (intOf iv).toNat)
  case atStart => exact ⟨0, Nat.zero_le _, rfl, fun j _ h => absurd h (Nat.not_lt_zero _), H3.out.2.1, Below.refl _ _⟩
  case round =>
    obtain ⟨i, hi, rfl, hall, hb, hb3⟩ := hrel
    have HA := Lib.hid hall; clear hall
    have hR := H3.out.2.2.below hb3 H3.out.2.2.lt
    have hslr := H3.out.1.below hb3 (Nat.le_refl _)
    by_cases hlt : i < n
    · have hiL : i < L.length := by have := HL.out; omega
      obtain ⟨A', c', hA, _, _, hso⟩ := hslr
      obtain ⟨rfl, rfl⟩ : A3 = A' ∧ k3 = c' := by injection hA with e1 e2 e3; exact ⟨e1, e3⟩
      clear hA
      obtain ⟨b, off, rfl, hbb, hcs⟩ := hso (by omega)
      have c0 := hcs i hiL 0 (by omega)
      have c1 := hcs i hiL 1 (by omega)
      have c2 := hcs i hiL 2 (by omega)
      have c3' := hcs i hiL 3 (by omega)
      have c4 := hcs i hiL 4 (by omega)
      have c5 := hcs i hiL 5 (by omega)
      simp only [eCM, List.getElem?_cons_succ, List.getElem?_cons_zero, Nat.add_zero] at c0 c1 c2 c3' c4 c5
      clear hcs hso
      have hi1 : (i : Int) < n := by omega
      have hF := findM_at L p i hiL HA.out
      have HN := Lib.hid (fun (hne : ¬ L[i].1 = p) => (fun j (hj : j < L.length) (hji : j < i + 1) => (by
        by_cases h : j < i
        · exact HA.out j hj h
        · obtain rfl : j = i := by omega
          exact hne : ¬ L[j].1 = p)))
      obtain ⟨⟨q, ⟨kd, md, tm, sz, sm⟩⟩, hx⟩ : ∃ x, L[i] = x := ⟨_, rfl⟩
      simp only [hx] at c0 c1 c2 c3' c4 c5 hF HN
      clear hx
      have hba := (Below.refl wr.heap.size wr).alloc (Nat.le_refl _) (.cells #[.string q, .int .i64 kd, .int .i64 md, .int .u32 tm, .int .i64 sz, .int .u32 sm] 74)
      have HBW := Lib.hid (And.intro (hb.trans (hba.mono hb.size)) (And.intro (hb3.trans (hba.mono hb3.size)) (hR.below hba hR.lt))); clear hba hb hb3 hR
      have x0 := HBW.out.2.2.cell 0
      have x1 := HBW.out.2.2.cell 1
      have x2 := HBW.out.2.2.cell 2
      have x3 := HBW.out.2.2.cell 3
      have x4 := HBW.out.2.2.cell 4
      simp at x0 x1 x2 x3 x4
      have f0 := HBW.out.2.2.frozen 0
      have f1 := HBW.out.2.2.frozen 1
      have f2 := HBW.out.2.2.frozen 2
      have f3 := HBW.out.2.2.frozen 3
      have f4 := HBW.out.2.2.frozen 4
      by_cases hk : q = p
      · have hF2 := Lib.hid (hF hk)
        have te : (q.toList == p.toList) = true := by rw [str_beq]; simpa using hk
        clear hk hF HN
        go_wp2_with fail
        refine bodyPost_ret (res_blk_tmp rfl _ _ (w.heap.size + 1) 62 #[.int .i64 kd, .int .i64 md, .int .u32 tm, .int .i64 sz, .int .u32 sm] _ rfl (((((HBW.out.2.2.put 0 (.int .i64 kd)).put 1 (.int .i64 md)).put 2 (.int .u32 tm)).put 3 (.int .i64 sz)).put 4 (.int .u32 sm)) Tryz.underlying62 rfl (by kernel_rfl)) rfl ⟨by rw [hF2.out]; rfl, ?_⟩
        exact ((((HBW.out.1.setCell (p := ⟨w.heap.size + 1, 0, none⟩) (Nat.le_succ _) (.int .i64 kd)).setCell (p := ⟨w.heap.size + 1, 1, none⟩) (Nat.le_succ _) (.int .i64 md)).setCell (p := ⟨w.heap.size + 1, 2, none⟩) (Nat.le_succ _) (.int .u32 tm)).setCell (p := ⟨w.heap.size + 1, 3, none⟩) (Nat.le_succ _) (.int .i64 sz)).setCell (p := ⟨w.heap.size + 1, 4, none⟩) (Nat.le_succ _) (.int .u32 sm)
      · have HN2 := Lib.hid (HN.out hk)
        have te : (q.toList == p.toList) = false := by rw [str_beq]; simpa using hk
        clear hk hF HN
        go_wp2_with fail
        go_roundw
        case rel => exact ⟨i + 1, by omega, by go_num, HN2.out, HBW.out.1, HBW.out.2.1⟩
        case measure => simp [intOf]; omega
    · obtain rfl : i = n := by omega
      have hF2 := Lib.hid (findM_none (L := L) (p := p) (fun m hm => by
        obtain ⟨j, hj, rfl⟩ := List.getElem_of_mem hm
        exact HA.out j hj (by have := HL.out; omega)))
      have HBW := Lib.hid (And.intro hb hR); clear hb hb3 hR hslr
      have x0 := HBW.out.2.cell 0
      have x1 := HBW.out.2.cell 1
      have x2 := HBW.out.2.cell 2
      have x3 := HBW.out.2.cell 3
      have x4 := HBW.out.2.cell 4
      simp at x0 x1 x2 x3 x4
      have f0 := HBW.out.2.frozen 0
      have f1 := HBW.out.2.frozen 1
      have f2 := HBW.out.2.frozen 2
      have f3 := HBW.out.2.frozen 3
      have f4 := HBW.out.2.frozen 4
      go_wp2_with fail
      refine bodyPost_ret (res_blk_tmp rfl _ _ (w.heap.size + 1) 62 #[.int .i64 0, .int .i64 0, .int .u32 0, .int .i64 0, .int .u32 0] _ rfl (((((HBW.out.2.put 0 (.int .i64 0)).put 1 (.int .i64 0)).put 2 (.int .u32 0)).put 3 (.int .i64 0)).put 4 (.int .u32 0)) Tryz.underlying62 rfl (by kernel_rfl)) rfl ⟨by rw [hF2.out]; rfl, ?_⟩
      exact ((((HBW.out.1.setCell (p := ⟨w.heap.size + 1, 0, none⟩) (Nat.le_succ _) (.int .i64 0)).setCell (p := ⟨w.heap.size + 1, 1, none⟩) (Nat.le_succ _) (.int .i64 0)).setCell (p := ⟨w.heap.size + 1, 2, none⟩) (Nat.le_succ _) (.int .u32 0)).setCell (p := ⟨w.heap.size + 1, 3, none⟩) (Nat.le_succ _) (.int .i64 0)).setCell (p := ⟨w.heap.size + 1, 4, none⟩) (Nat.le_succ _) (.int .u32 0)
end Go.Proofs.YtlfeeiloijmagaaGreatDoor
/- detect.of, All. -/
set_option linter.unusedVariables false
set_option linter.unusedSimpArgs false
namespace Sw
open Go
theorem getT_size {xs : List NE} {p : ByteArray} {n : Nat} (hu : Up ordS xs) (h : ∀ e ∈ xs, e.2.data.size ≤ n) : (getT xs p).data.size ≤ n := by
  rcases Classical.em (∃ e ∈ xs, e.1 = p) with ⟨e, he, rfl⟩ | hn
  · rw [getT_in hu he]; exact h e he
  · rw [getT_out hu (fun e he h => hn ⟨e, he, h⟩)]; exact Nat.zero_le _
end Sw
namespace Go.Proofs.YtlfeeiloijmagaaGreatDoor
open Go Go.RowKit
open Sw
end Go.Proofs.YtlfeeiloijmagaaGreatDoor
/- The contract of swingleref01.Same: are two slices of texts alike? -/
set_option linter.unusedVariables false
set_option linter.unusedSimpArgs false
namespace Go.Proofs.YtlfeeiloijmagaaGreatDoor
open Go.RowKit
open Sw
/-- a text as it lies -/
def sE (t : ByteArray) : List Value := [.string t]
theorem beqT (s t : ByteArray) : (s.toList == t.toList) = decide (s = t) := by
  rw [ByteArray.toList_eq, ByteArray.toList_eq]
  by_cases h : s = t
  · subst h; simp
  · rw [decide_eq_false h, beq_eq_false_iff_ne]
    intro e
    apply h
    cases s; cases t
    congr 1
    exact Array.toList_inj.1 e
end Go.Proofs.YtlfeeiloijmagaaGreatDoor
