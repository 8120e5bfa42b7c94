/- Several texts, joined for the limit of sixty files; each one opens with its own comment. -/
import Derived.Test.YtlfeeiloijmagaaGreatDoorJoin9
import Derived.Test.YtlfeeiloijmagaaGreatDoorJoin10
import Derived.Test.YtlfeeiloijmagaaGreatDoorJoin16
import Derived.Test.YtlfeeiloijmagaaGreatDoorJoin26
import Derived.Test.YtlfeeiloijmagaaGreatDoorJoin17
/- XDosRef with names that do not clash with the name texts (made from it by sed). -/
set_option linter.unusedVariables false
namespace Go.Proofs.YtlfeeiloijmagaaGreatDoor
open Go.RowKit
open Sw
set_option maxHeartbeats 1000000 in
theorem refDosDays_any (w : World) (y m : Int) (h0 : -9223372036854775808 ≤ y) (h1 : y ≤ 9223372036854775807) :
    Calls Tryz.prog 136 #[.int .i64 y, .int .i64 m] w fun e w' => e = .returned (.int .i64 (daysI y m)) ∧ w = w' := by
  by_cases hy : y < 1980
  · have hd : daysI y m = 0 := by unfold daysI; rw [if_pos (.inl hy)]
    rw [hd]
    go_enter Tryz.func136, Tryz.ntmps136
    go_wp2_with fail
    go_ret
    exact ⟨rfl, rfl⟩
  by_cases hy2 : 2107 < y
  · have hd : daysI y m = 0 := by unfold daysI; rw [if_pos (.inr (.inl hy2))]
    rw [hd]
    go_enter Tryz.func136, Tryz.ntmps136
    go_wp2_with fail
    go_ret
    exact ⟨rfl, rfl⟩
  have HD := Lib.hid (fun (hm : ¬ (m < 1 ∨ 12 < m)) => show daysI y m = (if m = 2 then (if leapI y = true then 29 else 28) else if m = 4 ∨ m = 6 ∨ m = 9 ∨ m = 11 then 30 else 31) by
    unfold daysI
    rw [if_neg (by omega)])
  have hm : m = 1 ∨ m = 3 ∨ m = 4 ∨ m = 5 ∨ m = 6 ∨ m = 7 ∨ m = 8 ∨ m = 9 ∨ m = 10 ∨ m = 11 ∨ m = 12 ∨ m = 2 ∨ m < 1 ∨ 12 < m := by omega
  rcases hm with rfl | rfl | rfl | rfl | rfl | rfl | rfl | rfl | rfl | rfl | rfl | hm
  case inr.inr.inr.inr.inr.inr.inr.inr.inr.inr.inr =>
    rcases hm with rfl | hm
    · have e4 : (y.tmod 4 == 0) = decide (y % 4 = 0) := by
        rw [Bool.eq_iff_iff, beq_iff_eq, decide_eq_true_iff, ← Int.dvd_iff_tmod_eq_zero, ← Int.dvd_iff_emod_eq_zero]
      have hd : daysI y 2 = if leapI y = true then 29 else 28 := by
        unfold daysI
        rw [if_neg (by omega), if_pos rfl]
      unfold leapI at hd
      by_cases h4 : y % 4 = 0
      · have ht : (y.tmod 4 == 0) = true := by rw [e4]; simpa using h4
        by_cases h5 : y = 2100
        · have hn : (y != 2100) = false := by simp [h5]
          have hd' : daysI y 2 = 28 := by rw [hd]; simp [h5]
          rw [hd']
          clear hd hd' e4 h5
          go_enter Tryz.func136, Tryz.ntmps136
          go_wp2_with fail
          go_ret
          exact ⟨rfl, rfl⟩
        · have hn : (y != 2100) = true := by simp [h5]
          have hd' : daysI y 2 = 29 := by rw [hd]; simp [h5, h4]
          rw [hd']
          clear hd hd' e4
          go_enter Tryz.func136, Tryz.ntmps136
          go_wp2_with fail
          go_ret
          exact ⟨rfl, rfl⟩
      · have ht : (y.tmod 4 == 0) = false := by rw [e4]; simpa using h4
        have hd' : daysI y 2 = 28 := by rw [hd]; simp [h4]
        rw [hd']
        clear hd hd' e4
        go_enter Tryz.func136, Tryz.ntmps136
        go_wp2_with fail
        go_ret
        exact ⟨rfl, rfl⟩
    · have hd : daysI y m = 0 := by unfold daysI; rw [if_pos (.inr (.inr hm))]
      rw [hd]
      have t1 : (m == 1) = false := by rw [beq_eq_false_iff_ne]; omega
      have t2 : (m == 2) = false := by rw [beq_eq_false_iff_ne]; omega
      have t3 : (m == 3) = false := by rw [beq_eq_false_iff_ne]; omega
      have t4 : (m == 4) = false := by rw [beq_eq_false_iff_ne]; omega
      have t5 : (m == 5) = false := by rw [beq_eq_false_iff_ne]; omega
      have t6 : (m == 6) = false := by rw [beq_eq_false_iff_ne]; omega
      have t7 : (m == 7) = false := by rw [beq_eq_false_iff_ne]; omega
      have t8 : (m == 8) = false := by rw [beq_eq_false_iff_ne]; omega
      have t9 : (m == 9) = false := by rw [beq_eq_false_iff_ne]; omega
      have t10 : (m == 10) = false := by rw [beq_eq_false_iff_ne]; omega
      have t11 : (m == 11) = false := by rw [beq_eq_false_iff_ne]; omega
      have t12 : (m == 12) = false := by rw [beq_eq_false_iff_ne]; omega
      clear hd hm
      go_enter Tryz.func136, Tryz.ntmps136
      go_wp2_with fail
      go_ret
      exact ⟨rfl, rfl⟩
  all_goals
    have hd := HD.out (by omega)
    simp at hd
    rw [hd]
    clear hd HD
    go_enter Tryz.func136, Tryz.ntmps136
    go_wp2_with fail
    go_ret
    exact ⟨rfl, rfl⟩
theorem refDosSplit_any (w : World) (t : Int) (h0 : 0 ≤ t) (h1 : t < 4294967296) :
    Calls Tryz.prog 112 #[.int .u32 t] w fun e w' => e = .returned (.agg (Dt.v (splitD t))) ∧ Below w.heap.size w w' := by
  go_enter Tryz.func112, Tryz.ntmps112
  have hrow : Dt.v (splitD t) = #[Value.int IntKind.i64 (1980 + t / 32 / 64 / 32 / 32 / 16), Value.int IntKind.i64 (t / 32 / 64 / 32 / 32 % 16), Value.int IntKind.i64 (t / 32 / 64 / 32 % 32), Value.int IntKind.i64 (t / 32 / 64 % 32), Value.int IntKind.i64 (t / 32 % 64), Value.int IntKind.i64 (2 * (t % 32))] := by
    have e1 : t / 32 / 64 / 32 / 32 / 16 = t / 33554432 := by omega
    have e2 : t / 32 / 64 / 32 / 32 = t / 2097152 := by omega
    have e3 : t / 32 / 64 / 32 = t / 65536 := by omega
    have e4 : t / 32 / 64 = t / 2048 := by omega
    rw [e1, e2, e3, e4]; rfl
  rw [hrow]
  have HROW := Lib.hid hrow; clear hrow
  go_wp2_with fail
  refine bodyPost_ret (results_cell_row rfl _ _ w.heap.size 167 _ (0, 0) _ rfl ((Blk.new w _ _).alloc _) Tryz.underlying167 rfl (by kernel_rfl)) rfl ⟨rfl, ((Below.refl w.heap.size w).alloc (Nat.le_refl _) _).alloc (by simp) _⟩
set_option maxRecDepth 100000 in
set_option maxHeartbeats 40000000 in
theorem refDosRight_any (w : World) (x : Dt) (hx : Dt.In x) :
    Calls Tryz.prog 111 #[.agg (Dt.v x)] w fun e w' => e = .returned (.bool (decide x.Ok)) ∧ Below w.heap.size w w' := by
  have hT : TimeAt w w.heap.size 167 x (w.alloc (Obj.cells (Dt.v x) 167)) := ⟨Blk.new _ _ _, (Below.refl _ _).alloc (Nat.le_refl _) _⟩
  have HTD := Lib.hid (show TimeAt w w.heap.size 167 x (w.alloc (Obj.cells (Dt.v x) 167)).drew from ⟨hT.1, hT.2.drew⟩)
  have hD := fun W => refDosDays_any W x.y x.m hx.y0 hx.y1
  have hdl := daysI_le x.y x.m
  have hOk : x.Ok = (1 ≤ x.d ∧ x.d ≤ daysI x.y x.m ∧ 0 ≤ x.h ∧ x.h < 24 ∧ 0 ≤ x.mi ∧ x.mi < 60 ∧ 0 ≤ x.s ∧ x.s < 60 ∧ x.s % 2 = 0) := rfl
  generalize hdy : daysI x.y x.m = dy at *
  have HD := Lib.hid hD; clear hD
  have HOK := Lib.hid hOk; clear hOk
  have hm2 : (x.s.tmod 2 == 0) = decide (x.s % 2 = 0) := by rw [Bool.eq_iff_iff, beq_iff_eq, decide_eq_true_iff, ← Int.dvd_iff_tmod_eq_zero, ← Int.dvd_iff_emod_eq_zero]
  have HM2 := Lib.hid hm2; clear hm2
  clear hT hdy
  have q0 : ∀ n : Held (TimeAt w w.heap.size 167 x), (HeldW n).cell? ⟨w.heap.size, 0, none⟩ = some (.int .i64 x.y) := fun n => (HeldW_spec n).1.cell 0
  have q1 : ∀ n : Held (TimeAt w w.heap.size 167 x), (HeldW n).cell? ⟨w.heap.size, 1, none⟩ = some (.int .i64 x.m) := fun n => (HeldW_spec n).1.cell 1
  have q2 : ∀ n : Held (TimeAt w w.heap.size 167 x), (HeldW n).cell? ⟨w.heap.size, 2, none⟩ = some (.int .i64 x.d) := fun n => (HeldW_spec n).1.cell 2
  have q3 : ∀ n : Held (TimeAt w w.heap.size 167 x), (HeldW n).cell? ⟨w.heap.size, 3, none⟩ = some (.int .i64 x.h) := fun n => (HeldW_spec n).1.cell 3
  have q4 : ∀ n : Held (TimeAt w w.heap.size 167 x), (HeldW n).cell? ⟨w.heap.size, 4, none⟩ = some (.int .i64 x.mi) := fun n => (HeldW_spec n).1.cell 4
  have q5 : ∀ n : Held (TimeAt w w.heap.size 167 x), (HeldW n).cell? ⟨w.heap.size, 5, none⟩ = some (.int .i64 x.s) := fun n => (HeldW_spec n).1.cell 5
  haveI : Nonempty (Held (TimeAt w w.heap.size 167 x)) := held_some HTD.out
  obtain ⟨y0, y1, m0, m1, d0, d1, hh0, hh1, i0, i1, s0, s1⟩ := hx
  by_cases c0 : 1 ≤ x.d
  · skip
    by_cases c1 : x.d ≤ dy
    · skip
      by_cases c2 : 0 ≤ x.h
      · skip
        by_cases c3 : x.h ≤ 23
        · skip
          by_cases c4 : 0 ≤ x.mi
          · skip
            by_cases c5 : x.mi ≤ 59
            · skip
              by_cases c6 : 0 ≤ x.s
              · skip
                by_cases c7 : x.s ≤ 58
                · skip
                  by_cases c8 : x.s % 2 = 0
                  · skip
                    have t2 : (x.s.tmod 2 == 0) = true := by rw [HM2.out]; exact decide_eq_true c8
                    have HR := Lib.hid (show decide x.Ok = true by rw [decide_eq_true_iff, HOK.out]; omega)
                    go_enter Tryz.func111, Tryz.ntmps111
                    go_wp2_with fail
                    refine wp_region_class (TimeAt w w.heap.size 167 x) (by kernel_rfl) (by kernel_rfl) HTD.out ?_
                    repeat (go_big_quiet_step (with_reducible exact held_same (HD.out _)))
                    refine wpQuiet_nil ?_
                    rintro _ ⟨n, rfl⟩
                    go_wp2_with fail
                    go_ret
                    rw [HR.out]
                    exact ⟨by first | (simp; done) | (simp; omega), (HeldW_spec n).2⟩
                  · skip
                    have t2 : (x.s.tmod 2 == 0) = false := by rw [HM2.out]; exact decide_eq_false c8
                    have HR := Lib.hid (show decide x.Ok = false by rw [decide_eq_false_iff_not, HOK.out]; omega)
                    go_enter Tryz.func111, Tryz.ntmps111
                    go_wp2_with fail
                    refine wp_region_class (TimeAt w w.heap.size 167 x) (by kernel_rfl) (by kernel_rfl) HTD.out ?_
                    repeat (go_big_quiet_step (with_reducible exact held_same (HD.out _)))
                    refine wpQuiet_nil ?_
                    rintro _ ⟨n, rfl⟩
                    go_wp2_with fail
                    go_ret
                    rw [HR.out]
                    exact ⟨by first | (simp; done) | (simp; omega), (HeldW_spec n).2⟩
                · skip
                  have t7f : decide (x.s ≤ 58) = false := decide_eq_false c7
                  have HR := Lib.hid (show decide x.Ok = false by rw [decide_eq_false_iff_not, HOK.out]; omega)
                  go_enter Tryz.func111, Tryz.ntmps111
                  go_wp2_with fail
                  refine wp_region_class (TimeAt w w.heap.size 167 x) (by kernel_rfl) (by kernel_rfl) HTD.out ?_
                  repeat (go_big_quiet_step (with_reducible exact held_same (HD.out _)))
                  refine wpQuiet_nil ?_
                  rintro _ ⟨n, rfl⟩
                  go_wp2_with fail
                  go_ret
                  rw [HR.out]
                  exact ⟨by first | (simp; done) | (simp; omega), (HeldW_spec n).2⟩
              · skip
                have t6f : decide (0 ≤ x.s) = false := decide_eq_false c6
                have HR := Lib.hid (show decide x.Ok = false by rw [decide_eq_false_iff_not, HOK.out]; omega)
                go_enter Tryz.func111, Tryz.ntmps111
                go_wp2_with fail
                refine wp_region_class (TimeAt w w.heap.size 167 x) (by kernel_rfl) (by kernel_rfl) HTD.out ?_
                repeat (go_big_quiet_step (with_reducible exact held_same (HD.out _)))
                refine wpQuiet_nil ?_
                rintro _ ⟨n, rfl⟩
                go_wp2_with fail
                go_ret
                rw [HR.out]
                exact ⟨by first | (simp; done) | (simp; omega), (HeldW_spec n).2⟩
            · skip
              have t5f : decide (x.mi ≤ 59) = false := decide_eq_false c5
              have HR := Lib.hid (show decide x.Ok = false by rw [decide_eq_false_iff_not, HOK.out]; omega)
              go_enter Tryz.func111, Tryz.ntmps111
              go_wp2_with fail
              refine wp_region_class (TimeAt w w.heap.size 167 x) (by kernel_rfl) (by kernel_rfl) HTD.out ?_
              repeat (go_big_quiet_step (with_reducible exact held_same (HD.out _)))
              refine wpQuiet_nil ?_
              rintro _ ⟨n, rfl⟩
              go_wp2_with fail
              go_ret
              rw [HR.out]
              exact ⟨by first | (simp; done) | (simp; omega), (HeldW_spec n).2⟩
          · skip
            have t4f : decide (0 ≤ x.mi) = false := decide_eq_false c4
            have HR := Lib.hid (show decide x.Ok = false by rw [decide_eq_false_iff_not, HOK.out]; omega)
            go_enter Tryz.func111, Tryz.ntmps111
            go_wp2_with fail
            refine wp_region_class (TimeAt w w.heap.size 167 x) (by kernel_rfl) (by kernel_rfl) HTD.out ?_
            repeat (go_big_quiet_step (with_reducible exact held_same (HD.out _)))
            refine wpQuiet_nil ?_
            rintro _ ⟨n, rfl⟩
            go_wp2_with fail
            go_ret
            rw [HR.out]
            exact ⟨by first | (simp; done) | (simp; omega), (HeldW_spec n).2⟩
        · skip
          have t3f : decide (x.h ≤ 23) = false := decide_eq_false c3
          have HR := Lib.hid (show decide x.Ok = false by rw [decide_eq_false_iff_not, HOK.out]; omega)
          go_enter Tryz.func111, Tryz.ntmps111
          go_wp2_with fail
          refine wp_region_class (TimeAt w w.heap.size 167 x) (by kernel_rfl) (by kernel_rfl) HTD.out ?_
          repeat (go_big_quiet_step (with_reducible exact held_same (HD.out _)))
          refine wpQuiet_nil ?_
          rintro _ ⟨n, rfl⟩
          go_wp2_with fail
          go_ret
          rw [HR.out]
          exact ⟨by first | (simp; done) | (simp; omega), (HeldW_spec n).2⟩
      · skip
        have t2f : decide (0 ≤ x.h) = false := decide_eq_false c2
        have HR := Lib.hid (show decide x.Ok = false by rw [decide_eq_false_iff_not, HOK.out]; omega)
        go_enter Tryz.func111, Tryz.ntmps111
        go_wp2_with fail
        refine wp_region_class (TimeAt w w.heap.size 167 x) (by kernel_rfl) (by kernel_rfl) HTD.out ?_
        repeat (go_big_quiet_step (with_reducible exact held_same (HD.out _)))
        refine wpQuiet_nil ?_
        rintro _ ⟨n, rfl⟩
        go_wp2_with fail
        go_ret
        rw [HR.out]
        exact ⟨by first | (simp; done) | (simp; omega), (HeldW_spec n).2⟩
    · skip
      have t1f : decide (x.d ≤ dy) = false := decide_eq_false c1
      have HR := Lib.hid (show decide x.Ok = false by rw [decide_eq_false_iff_not, HOK.out]; omega)
      go_enter Tryz.func111, Tryz.ntmps111
      go_wp2_with fail
      refine wp_region_class (TimeAt w w.heap.size 167 x) (by kernel_rfl) (by kernel_rfl) HTD.out ?_
      repeat (go_big_quiet_step (with_reducible exact held_same (HD.out _)))
      refine wpQuiet_nil ?_
      rintro _ ⟨n, rfl⟩
      go_wp2_with fail
      go_ret
      rw [HR.out]
      exact ⟨by first | (simp; done) | (simp; omega), (HeldW_spec n).2⟩
  · skip
    have t0f : decide (1 ≤ x.d) = false := decide_eq_false c0
    have HR := Lib.hid (show decide x.Ok = false by rw [decide_eq_false_iff_not, HOK.out]; omega)
    go_enter Tryz.func111, Tryz.ntmps111
    go_wp2_with fail
    refine wp_region_class (TimeAt w w.heap.size 167 x) (by kernel_rfl) (by kernel_rfl) HTD.out ?_
    repeat (go_big_quiet_step (with_reducible exact held_same (HD.out _)))
    refine wpQuiet_nil ?_
    rintro _ ⟨n, rfl⟩
    go_wp2_with fail
    go_ret
    rw [HR.out]
    exact ⟨by first | (simp; done) | (simp; omega), (HeldW_spec n).2⟩
end Go.Proofs.YtlfeeiloijmagaaGreatDoor
/- The reference's Right of nodes (at a node that is one). -/
set_option linter.unusedVariables false
set_option linter.unusedSimpArgs false
namespace Go.Proofs.YtlfeeiloijmagaaGreatDoor
open Go Go.RowKit
open Sw
theorem refTime_any (w : World) (t : Int) (h0 : 0 ≤ t) (h1 : t < 4294967296) :
    Calls Tryz.prog 78 #[.int .u32 t] w fun e w' => e = .returned (.bool (decide (splitD t).Ok)) ∧ Below w.heap.size w w' := by
  have H1 := Lib.hid (refDosSplit_any w t h0 h1)
  have H2 := Lib.hid (fun W => refDosRight_any W (splitD t) (splitD_in t h0 h1))
  go_enter Tryz.func78, Tryz.ntmps78
  go_wp2_with fail
  refine H1.out.mono ?_
  rintro _ w1 ⟨rfl, hb1⟩
  have HB1 := Lib.hid hb1; clear hb1
  go_wp2_with fail
  refine (H2.out _).mono ?_
  rintro _ w2 ⟨rfl, hb2⟩
  have HB2 := Lib.hid (HB1.out.trans (hb2.mono HB1.out.size)); clear hb2
  go_wp2_with fail
  go_ret
  exact ⟨rfl, HB2.out⟩
set_option maxRecDepth 100000 in
set_option maxHeartbeats 4000000 in
theorem ref14Right_any (w : World) (n : Nd) (hk : ¬ n.kind = 0) (ht0 : 0 ≤ n.time) (ht1 : n.time < 4294967296) (hd : n.data.size ≤ maxLen) :
    Calls Tryz.prog 80 #[.agg n.c] w fun e w' => e = .returned (.int .i64 (nodeR n)) ∧ Below w.heap.size w w' := by
  obtain ⟨kd, md, tm, dt⟩ := n
  simp only at hk ht0 ht1 hd
  unfold maxLen at hd
  have hb0 := (Below.refl w.heap.size w).alloc (Nat.le_refl _) (.cells #[.int .i64 kd, .int .i64 md, .int .u32 tm, .string dt] 38)
  have hB0 := Blk.new w 38 #[.int .i64 kd, .int .i64 md, .int .u32 tm, .string dt]
  have H0 := Lib.hid (And.intro hb0 hB0); clear hb0 hB0
  have e0 : (kd == 0) = false := by rw [beq_eq_false_iff_ne]; exact hk
  unfold Nd.c
  have hR : nodeR ⟨kd, md, tm, dt⟩ = if ¬ kd = 1 ∧ ¬ kd = 2 then 8 else if kd = 2 ∧ (¬ dt.data.toList = [] ∨ ¬ tm = 0) then 1 else if ¬ (0 ≤ md ∧ md ≤ 511) then 12 else if kd = 1 ∧ ¬ (splitD tm).Ok then 13 else if (65000 : Int) < dt.size then 4 else 0 := by
    unfold nodeR
    simp [hk]
  rw [hR]
  clear hR
  by_cases h1 : kd = 1
  · subst h1
    rw [if_neg (by omega), if_neg (by omega)]
    have HD := Lib.hid (fun W => refTime_any W tm ht0 ht1)
    by_cases hm0 : 0 ≤ md
    · by_cases hm1 : md ≤ 511
      · rw [if_neg (fun h => h ⟨hm0, hm1⟩)]
        by_cases hk2 : (splitD tm).Ok
        · rw [decide_eq_true hk2] at HD
          rw [if_neg (fun h => h.2 hk2)]
          clear hk hk2
          by_cases hs : (65000 : Int) < dt.size
          all_goals
            first | rw [if_pos hs] | rw [if_neg hs]
            go_enter Tryz.func80, Tryz.ntmps80
            go_wp2_with fail
            refine (HD.out _).mono ?_
            rintro e w2 ⟨rfl, hb2⟩
            have x3 := (H0.out.2.below hb2 H0.out.2.lt).cell 3
            simp at x3
            have HF := Lib.hid (H0.out.1.trans (hb2.mono H0.out.1.size)); clear hb2
            go_wp2_with fail
            go_ret
            exact ⟨rfl, HF.out⟩
        · rw [decide_eq_false hk2] at HD
          rw [if_pos ⟨rfl, hk2⟩]
          clear hk hk2
          go_enter Tryz.func80, Tryz.ntmps80
          go_wp2_with fail
          refine (HD.out _).mono ?_
          rintro e w2 ⟨rfl, hb2⟩
          have HF := Lib.hid (H0.out.1.trans (hb2.mono H0.out.1.size)); clear hb2
          go_wp2_with fail
          go_ret
          exact ⟨rfl, HF.out⟩
      · rw [if_pos (fun h => hm1 h.2)]
        go_enter Tryz.func80, Tryz.ntmps80
        go_wp2_with fail
        go_ret
        exact ⟨rfl, H0.out.1⟩
    · rw [if_pos (fun h => hm0 h.1)]
      go_enter Tryz.func80, Tryz.ntmps80
      go_wp2_with fail
      go_ret
      exact ⟨rfl, H0.out.1⟩
  · have e1 : (kd == 1) = false := by rw [beq_eq_false_iff_ne]; exact h1
    by_cases h2 : kd = 2
    · subst h2
      rw [if_neg (by omega)]
      by_cases hx : dt.data.toList = []
      · by_cases hy : tm = 0
        · subst hy
          rw [if_neg (by rintro ⟨_, h⟩; rcases h with h | h <;> simp_all)]
          have hdz : dt = ⟨#[]⟩ := by cases dt with | mk d => cases d with | mk l => simp at hx; subst hx; rfl
          subst hdz
          clear hk h1 e1 hx
          by_cases hm0 : 0 ≤ md
          · by_cases hm1 : md ≤ 511
            · rw [if_neg (fun h => h ⟨hm0, hm1⟩)]
              rw [if_neg (by omega), if_neg (by decide)]
              go_enter Tryz.func80, Tryz.ntmps80
              go_wp2_with fail
              go_ret
              exact ⟨rfl, H0.out.1⟩
            · rw [if_pos (fun h => hm1 h.2)]
              go_enter Tryz.func80, Tryz.ntmps80
              go_wp2_with fail
              go_ret
              exact ⟨rfl, H0.out.1⟩
          · rw [if_pos (fun h => hm0 h.1)]
            go_enter Tryz.func80, Tryz.ntmps80
            go_wp2_with fail
            go_ret
            exact ⟨rfl, H0.out.1⟩
        · rw [if_pos ⟨rfl, .inr hy⟩]
          have hdz : dt = ⟨#[]⟩ := by cases dt with | mk d => cases d with | mk l => simp at hx; subst hx; rfl
          subst hdz
          have t0 : (tm == 0) = false := by rw [beq_eq_false_iff_ne]; exact hy
          have t1 : (tm != 0) = true := by rw [bne_iff_ne]; exact hy
          clear hk h1 e1 hx hy
          go_enter Tryz.func80, Tryz.ntmps80
          go_wp2_with fail
          go_ret
          exact ⟨rfl, H0.out.1⟩
      · rw [if_pos ⟨rfl, .inl hx⟩]
        have s0 : dt.data.toList.isEmpty = false := by cases hl : dt.data.toList with | nil => exact absurd hl hx | cons a l => rfl
        have s1 : (!dt.data.toList.isEmpty) = true := by rw [s0]; rfl
        have s2 : (dt.data.toList == []) = false := by rw [beq_eq_false_iff_ne]; exact hx
        have s3 : dt.toList.isEmpty = false := by rw [ByteArray.toList_eq]; exact s0
        clear hk h1 e1 hx
        go_enter Tryz.func80, Tryz.ntmps80
        go_wp2_with fail
        go_ret
        exact ⟨rfl, H0.out.1⟩
    · rw [if_pos ⟨h1, h2⟩]
      have e2 : (kd == 2) = false := by rw [beq_eq_false_iff_ne]; exact h2
      by_cases hn : kd < 0
      · clear hk h1 h2 e0 e1 e2
        go_enter Tryz.func80, Tryz.ntmps80
        go_wp2_with fail
        go_ret
        exact ⟨rfl, H0.out.1⟩
      · have hn2 : (2 : Int) < kd := by omega
        clear hk h1 h2 e0 e1 e2
        go_enter Tryz.func80, Tryz.ntmps80
        go_wp2_with fail
        go_ret
        exact ⟨rfl, H0.out.1⟩
end Go.Proofs.YtlfeeiloijmagaaGreatDoor
/- The reference's Fine, of a print: it answers. -/
set_option linter.unusedVariables false
set_option linter.unusedSimpArgs false
namespace Go.Proofs.YtlfeeiloijmagaaGreatDoor
open Go Go.RowKit
open Sw
set_option maxRecDepth 100000 in
set_option maxHeartbeats 4000000 in
theorem refFine_any (w : World) (p : Pr) (ht0 : 0 ≤ p.time) (ht1 : p.time < 4294967296) :
    Calls Tryz.prog 50 #[.agg p.c] w fun e w' => ∃ R : Bool, e = .returned (.bool R) ∧ Below w.heap.size w w' := by
  obtain ⟨kd, md, tm, sz, sm⟩ := p
  simp only at ht0 ht1
  have hb0 := (Below.refl w.heap.size w).alloc (Nat.le_refl _) (.cells #[.int .i64 kd, .int .i64 md, .int .u32 tm, .int .i64 sz, .int .u32 sm] 62)
  have hB0 := Blk.new w 62 #[.int .i64 kd, .int .i64 md, .int .u32 tm, .int .i64 sz, .int .u32 sm]
  have HB := Lib.hid (And.intro hb0 hB0); clear hb0 hB0
  have HT := Lib.hid (fun W => refTime_any W tm ht0 ht1)
  clear ht0 ht1
  generalize decide (splitD tm).Ok = ok at HT
  unfold Pr.c
  by_cases a1 : kd < 0
  · go_enter Tryz.func50, Tryz.ntmps50
    go_wp2_with fail
    go_ret
    first | exact HB.out.1 | exact ⟨.inl rfl, HB.out.1⟩ | exact ⟨.inr rfl, HB.out.1⟩ | exact ⟨_, rfl, HB.out.1⟩
  by_cases a2 : 2 < kd
  · go_enter Tryz.func50, Tryz.ntmps50
    go_wp2_with fail
    go_ret
    first | exact HB.out.1 | exact ⟨.inl rfl, HB.out.1⟩ | exact ⟨.inr rfl, HB.out.1⟩ | exact ⟨_, rfl, HB.out.1⟩
  by_cases a3 : md < 0
  · go_enter Tryz.func50, Tryz.ntmps50
    go_wp2_with fail
    go_ret
    first | exact HB.out.1 | exact ⟨.inl rfl, HB.out.1⟩ | exact ⟨.inr rfl, HB.out.1⟩ | exact ⟨_, rfl, HB.out.1⟩
  by_cases a4 : 511 < md
  · go_enter Tryz.func50, Tryz.ntmps50
    go_wp2_with fail
    go_ret
    first | exact HB.out.1 | exact ⟨.inl rfl, HB.out.1⟩ | exact ⟨.inr rfl, HB.out.1⟩ | exact ⟨_, rfl, HB.out.1⟩
  by_cases a5 : sz < 0
  · go_enter Tryz.func50, Tryz.ntmps50
    go_wp2_with fail
    go_ret
    first | exact HB.out.1 | exact ⟨.inl rfl, HB.out.1⟩ | exact ⟨.inr rfl, HB.out.1⟩ | exact ⟨_, rfl, HB.out.1⟩
  by_cases a6 : 65000 < sz
  · go_enter Tryz.func50, Tryz.ntmps50
    go_wp2_with fail
    go_ret
    first | exact HB.out.1 | exact ⟨.inl rfl, HB.out.1⟩ | exact ⟨.inr rfl, HB.out.1⟩ | exact ⟨_, rfl, HB.out.1⟩
  by_cases k1 : kd = 1
  · subst k1
    cases ok with
    | false =>
      go_enter Tryz.func50, Tryz.ntmps50
      go_wp2_with fail
      refine (HT.out _).mono ?_
      rintro e w1 ⟨rfl, hb1⟩
      have H1 := Lib.hid (HB.out.1.trans (hb1.mono HB.out.1.size)); clear hb1
      go_wp2_with fail
      go_ret
      first | exact H1.out | exact ⟨.inl rfl, H1.out⟩ | exact ⟨.inr rfl, H1.out⟩ | exact ⟨_, rfl, H1.out⟩
    | true =>
      by_cases z : sz = 0
      · subst z
        go_enter Tryz.func50, Tryz.ntmps50
        go_wp2_with fail
        refine (HT.out _).mono ?_
        rintro e w1 ⟨rfl, hb1⟩
        have x3 := (HB.out.2.below hb1 HB.out.2.lt).cell 3
        have x4 := (HB.out.2.below hb1 HB.out.2.lt).cell 4
        simp at x3 x4
        have H1 := Lib.hid (HB.out.1.trans (hb1.mono HB.out.1.size)); clear hb1
        go_wp2_with fail
        go_ret
        first | exact H1.out | exact ⟨.inl rfl, H1.out⟩ | exact ⟨.inr rfl, H1.out⟩ | exact ⟨_, rfl, H1.out⟩
      · have ez : (sz == 0) = false := by rw [beq_eq_false_iff_ne]; exact z
        go_enter Tryz.func50, Tryz.ntmps50
        go_wp2_with fail
        refine (HT.out _).mono ?_
        rintro e w1 ⟨rfl, hb1⟩
        have x3 := (HB.out.2.below hb1 HB.out.2.lt).cell 3
        have x4 := (HB.out.2.below hb1 HB.out.2.lt).cell 4
        simp at x3 x4
        have H1 := Lib.hid (HB.out.1.trans (hb1.mono HB.out.1.size)); clear hb1
        go_wp2_with fail
        go_ret
        first | exact H1.out | exact ⟨.inl rfl, H1.out⟩ | exact ⟨.inr rfl, H1.out⟩ | exact ⟨_, rfl, H1.out⟩
  · have e1 : (kd == 1) = false := by rw [beq_eq_false_iff_ne]; exact k1
    obtain ⟨q1, hq1⟩ : ∃ q, (tm == 0) = q := ⟨_, rfl⟩
    obtain ⟨q2, hq2⟩ : ∃ q, (sz == 0) = q := ⟨_, rfl⟩
    obtain ⟨q3, hq3⟩ : ∃ q, (sm == 0) = q := ⟨_, rfl⟩
    obtain ⟨q4, hq4⟩ : ∃ q, (kd == 2) = q := ⟨_, rfl⟩
    obtain ⟨q5, hq5⟩ : ∃ q, (md == 0) = q := ⟨_, rfl⟩
    cases q1
    · go_enter Tryz.func50, Tryz.ntmps50
      go_wp2_with fail
      go_ret
      first | exact HB.out.1 | exact ⟨.inl rfl, HB.out.1⟩ | exact ⟨.inr rfl, HB.out.1⟩ | exact ⟨_, rfl, HB.out.1⟩
    cases q2
    · go_enter Tryz.func50, Tryz.ntmps50
      go_wp2_with fail
      go_ret
      first | exact HB.out.1 | exact ⟨.inl rfl, HB.out.1⟩ | exact ⟨.inr rfl, HB.out.1⟩ | exact ⟨_, rfl, HB.out.1⟩
    cases q3
    · go_enter Tryz.func50, Tryz.ntmps50
      go_wp2_with fail
      go_ret
      first | exact HB.out.1 | exact ⟨.inl rfl, HB.out.1⟩ | exact ⟨.inr rfl, HB.out.1⟩ | exact ⟨_, rfl, HB.out.1⟩
    cases q4 <;> cases q5
    all_goals
      go_enter Tryz.func50, Tryz.ntmps50
      go_wp2_with fail
      go_ret
      first | exact HB.out.1 | exact ⟨.inl rfl, HB.out.1⟩ | exact ⟨.inr rfl, HB.out.1⟩ | exact ⟨_, rfl, HB.out.1⟩
end Go.Proofs.YtlfeeiloijmagaaGreatDoor
/- The reference's Get of marks. -/
set_option linter.unusedVariables false
set_option linter.unusedSimpArgs false
namespace Go.Proofs.YtlfeeiloijmagaaGreatDoor
open Go Go.RowKit
open Sw
set_option maxRecDepth 100000 in
set_option maxHeartbeats 8000000 in
theorem refGet26_any (w : World) (u : Value) (L : List MkE) (p : ByteArray) (h : SlV w 6 eCM u L) (hn : L.length ≤ 200000) :
    Calls Tryz.prog 28 #[u, .string p] w fun e w' => e = .returned (.tuple #[.agg ((findM L p).getD ⟨0, 0, 0, 0, 0⟩).c, .bool (findM L p).isSome]) ∧ Below w.heap.size w w' := by
  have HS := Lib.hid h
  obtain ⟨A, c, rfl, _, _, _⟩ := h
  obtain ⟨n, hn2⟩ : ∃ n, L.length = n := ⟨_, rfl⟩
  rw [hn2] at HS hn ⊢
  have HL := Lib.hid hn2; clear hn2
  obtain ⟨W0, hW0⟩ : ∃ W0, w.alloc (.cells #[.int .i64 0, .int .i64 0, .int .u32 0, .int .i64 0, .int .u32 0] 62) = W0 := ⟨_, rfl⟩
  have hb0 : Below w.heap.size w W0 := by rw [← hW0]; exact (Below.refl _ w).alloc (Nat.le_refl _) _
  have hR0 : Blk W0 w.heap.size 62 #[.int .i64 0, .int .i64 0, .int .u32 0, .int .i64 0, .int .u32 0] := by rw [← hW0]; exact Blk.new _ _ _
  have HW0 := Lib.hid (And.intro hW0 (And.intro hb0 hR0)); clear hW0 hb0 hR0
  go_enter Tryz.func28, Tryz.ntmps28
  go_wp2_with fail
  rw [HW0.out.1]
  go_loopw [10] (fun iv wr => ∃ i : Nat, i ≤ n ∧ iv = .int .i64 i ∧ (∀ j (hj : j < L.length), j < i → ¬ L[j].1 = p) ∧ Below w.heap.size w wr ∧ Blk wr w.heap.size 62 #[.int .i64 0, .int .i64 0, .int .u32 0, .int .i64 0, .int .u32 0]) (fun iv _ => n - (intOf iv).toNat)
  case atStart => exact ⟨0, Nat.zero_le _, rfl, fun j _ h => absurd h (Nat.not_lt_zero _), HW0.out.2.1, HW0.out.2.2⟩
  case round =>
    obtain ⟨i, hi, rfl, hall, hb, hR⟩ := hrel
    have HA := Lib.hid hall; clear hall
    have hslr := HS.out.below hb (Nat.le_refl _)
    by_cases hlt : i < n
    · have hiL : i < L.length := by have := HL.out; omega
      obtain ⟨A', c', hA, _, _, hso⟩ := hslr
      obtain ⟨rfl, rfl⟩ : A = A' ∧ c = c' := by injection hA with e1 e2 e3; exact ⟨e1, e3⟩
      clear hA
      obtain ⟨b, off, rfl, hbb, hcs⟩ := hso (by omega)
      have c0 := hcs i hiL 0 (by omega)
      have c1 := hcs i hiL 1 (by omega)
      have c2 := hcs i hiL 2 (by omega)
      have c3' := hcs i hiL 3 (by omega)
      have c4 := hcs i hiL 4 (by omega)
      have c5 := hcs i hiL 5 (by omega)
      simp only [eCM, List.getElem?_cons_succ, List.getElem?_cons_zero, Nat.add_zero] at c0 c1 c2 c3' c4 c5
      clear hcs hso
      have hi1 : (i : Int) < n := by omega
      have hF := findM_at L p i hiL HA.out
      have HN := Lib.hid (fun (hne : ¬ L[i].1 = p) => (fun j (hj : j < L.length) (hji : j < i + 1) => (by
        by_cases h : j < i
        · exact HA.out j hj h
        · obtain rfl : j = i := by omega
          exact hne : ¬ L[j].1 = p)))
      obtain ⟨⟨q, ⟨kd, md, tm, sz, sm⟩⟩, hx⟩ : ∃ x, L[i] = x := ⟨_, rfl⟩
      simp only [hx] at c0 c1 c2 c3' c4 c5 hF HN
      clear hx
      have hba := (Below.refl wr.heap.size wr).alloc (Nat.le_refl _) (.cells #[.string q, .int .i64 kd, .int .i64 md, .int .u32 tm, .int .i64 sz, .int .u32 sm] 74)
      have HBW := Lib.hid (And.intro (hb.trans (hba.mono hb.size)) (hR.below hba hR.lt)); clear hba hb hR
      have x0 := HBW.out.2.cell 0
      have x1 := HBW.out.2.cell 1
      have x2 := HBW.out.2.cell 2
      have x3 := HBW.out.2.cell 3
      have x4 := HBW.out.2.cell 4
      simp at x0 x1 x2 x3 x4
      have f0 := HBW.out.2.frozen 0
      have f1 := HBW.out.2.frozen 1
      have f2 := HBW.out.2.frozen 2
      have f3 := HBW.out.2.frozen 3
      have f4 := HBW.out.2.frozen 4
      by_cases hk : q = p
      · have hF2 := Lib.hid (hF hk)
        have te : (q.toList == p.toList) = true := by rw [str_beq]; simpa using hk
        clear hk hF HN
        go_wp2_with fail
        refine bodyPost_ret (res_blk_tmp rfl _ _ (w.heap.size) 62 #[.int .i64 kd, .int .i64 md, .int .u32 tm, .int .i64 sz, .int .u32 sm] _ rfl (((((HBW.out.2.put 0 (.int .i64 kd)).put 1 (.int .i64 md)).put 2 (.int .u32 tm)).put 3 (.int .i64 sz)).put 4 (.int .u32 sm)) Tryz.underlying62 rfl (by kernel_rfl)) rfl ⟨by rw [hF2.out]; rfl, ?_⟩
        exact ((((HBW.out.1.setCell (p := ⟨w.heap.size, 0, none⟩) (Nat.le_refl _) (.int .i64 kd)).setCell (p := ⟨w.heap.size, 1, none⟩) (Nat.le_refl _) (.int .i64 md)).setCell (p := ⟨w.heap.size, 2, none⟩) (Nat.le_refl _) (.int .u32 tm)).setCell (p := ⟨w.heap.size, 3, none⟩) (Nat.le_refl _) (.int .i64 sz)).setCell (p := ⟨w.heap.size, 4, none⟩) (Nat.le_refl _) (.int .u32 sm)
      · have HN2 := Lib.hid (HN.out hk)
        have te : (q.toList == p.toList) = false := by rw [str_beq]; simpa using hk
        clear hk hF HN
        go_wp2_with fail
        go_roundw
        case rel => exact ⟨i + 1, by omega, by go_num, HN2.out, HBW.out.1, HBW.out.2⟩
        case measure => simp [intOf]; omega
    · obtain rfl : i = n := by omega
      have hF2 := Lib.hid (findM_none (L := L) (p := p) (fun m hm => by
        obtain ⟨j, hj, rfl⟩ := List.getElem_of_mem hm
        exact HA.out j hj (by have := HL.out; omega)))
      have HBW := Lib.hid (And.intro hb hR); clear hb hR hslr
      have x0 := HBW.out.2.cell 0
      have x1 := HBW.out.2.cell 1
      have x2 := HBW.out.2.cell 2
      have x3 := HBW.out.2.cell 3
      have x4 := HBW.out.2.cell 4
      simp at x0 x1 x2 x3 x4
      have f0 := HBW.out.2.frozen 0
      have f1 := HBW.out.2.frozen 1
      have f2 := HBW.out.2.frozen 2
      have f3 := HBW.out.2.frozen 3
      have f4 := HBW.out.2.frozen 4
      go_wp2_with fail
      refine bodyPost_ret (res_blk_tmp rfl _ _ (w.heap.size) 62 #[.int .i64 0, .int .i64 0, .int .u32 0, .int .i64 0, .int .u32 0] _ rfl (((((HBW.out.2.put 0 (.int .i64 0)).put 1 (.int .i64 0)).put 2 (.int .u32 0)).put 3 (.int .i64 0)).put 4 (.int .u32 0)) Tryz.underlying62 rfl (by kernel_rfl)) rfl ⟨by rw [hF2.out]; rfl, ?_⟩
      exact ((((HBW.out.1.setCell (p := ⟨w.heap.size, 0, none⟩) (Nat.le_refl _) (.int .i64 0)).setCell (p := ⟨w.heap.size, 1, none⟩) (Nat.le_refl _) (.int .i64 0)).setCell (p := ⟨w.heap.size, 2, none⟩) (Nat.le_refl _) (.int .u32 0)).setCell (p := ⟨w.heap.size, 3, none⟩) (Nat.le_refl _) (.int .i64 0)).setCell (p := ⟨w.heap.size, 4, none⟩) (Nat.le_refl _) (.int .u32 0)
end Go.Proofs.YtlfeeiloijmagaaGreatDoor
