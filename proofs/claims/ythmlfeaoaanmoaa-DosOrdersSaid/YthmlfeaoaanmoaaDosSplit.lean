/- Contracts of the parts of a time, and of whether parts may be. -/
import Derived.Test.YthmlfeaoaanmoaaDosDays
import Derived.Test.YthmlfeaoaanmoaaHeld
import Derived.Laws.BitsAllLaws
set_option linter.unusedVariables false
namespace Go.Proofs.Ythmlfeaoaanmoaa
open Go.RowKit
open Sw
def Dt.v (x : Dt) : Array Value := #[.int .i64 x.y, .int .i64 x.m, .int .i64 x.d, .int .i64 x.h, .int .i64 x.mi, .int .i64 x.s]
/-- numbers that an int64 has -/
structure Dt.In (x : Dt) : Prop where
  y0 : -9223372036854775808 ≤ x.y
  y1 : x.y ≤ 9223372036854775807
  m0 : -9223372036854775808 ≤ x.m
  m1 : x.m ≤ 9223372036854775807
  d0 : -9223372036854775808 ≤ x.d
  d1 : x.d ≤ 9223372036854775807
  h0 : -9223372036854775808 ≤ x.h
  h1 : x.h ≤ 9223372036854775807
  i0 : -9223372036854775808 ≤ x.mi
  i1 : x.mi ≤ 9223372036854775807
  s0 : -9223372036854775808 ≤ x.s
  s1 : x.s ≤ 9223372036854775807
theorem splitD_in (t : Int) (h0 : 0 ≤ t) (h1 : t < 4294967296) : Dt.In (splitD t) := by
  constructor <;> (simp only [splitD]; omega)
theorem and_mask (x : Int) (k : Nat) (m : Int) (hm : m = ((2 ^ k - 1 : Nat) : Int)) (hk : 2 ^ k - 1 < 4294967296) (h0 : 0 ≤ x) (h1 : x < 4294967296) : bits .and .u32 x m = x % ((2 ^ k : Nat) : Int) := by
  obtain ⟨x, rfl⟩ := Int.eq_ofNat_of_zero_le h0
  rw [hm, u32_and_nat x (2 ^ k - 1) (by omega) hk, Nat.and_two_pow_sub_one_eq_mod]
  exact Int.natCast_emod _ _

theorem take_25 (w : World) (g : Nat) (t : Int) (h0 : 0 ≤ t) (h1 : t < 4294967296) (h : w.cell? ⟨g, 0, none⟩ = some (.int .u32 t)) :
    Calls Try.prog 75 #[.int .i64 25, .int .i64 7, .pointer (some ⟨g, 0, none⟩)] w fun e w' => e = .returned (.int .i64 (t / 33554432 % 128)) ∧ ∃ m, w' = w.drewN m := by
  have e : bits .and .u32 (t / 33554432) 127 = t / 33554432 % 128 := and_mask _ 7 _ rfl (by decide) (by omega) (by omega)
  go_enter Try.func75, Try.ntmps75
  go_wp2_with fail
  go_quiet (fail)
  go_wp2_with fail
  go_ret
  exact ⟨rfl, nq, rfl⟩
theorem take_21 (w : World) (g : Nat) (t : Int) (h0 : 0 ≤ t) (h1 : t < 4294967296) (h : w.cell? ⟨g, 0, none⟩ = some (.int .u32 t)) :
    Calls Try.prog 75 #[.int .i64 21, .int .i64 4, .pointer (some ⟨g, 0, none⟩)] w fun e w' => e = .returned (.int .i64 (t / 2097152 % 16)) ∧ ∃ m, w' = w.drewN m := by
  have e : bits .and .u32 (t / 2097152) 15 = t / 2097152 % 16 := and_mask _ 4 _ rfl (by decide) (by omega) (by omega)
  go_enter Try.func75, Try.ntmps75
  go_wp2_with fail
  go_quiet (fail)
  go_wp2_with fail
  go_ret
  exact ⟨rfl, nq, rfl⟩
theorem take_16 (w : World) (g : Nat) (t : Int) (h0 : 0 ≤ t) (h1 : t < 4294967296) (h : w.cell? ⟨g, 0, none⟩ = some (.int .u32 t)) :
    Calls Try.prog 75 #[.int .i64 16, .int .i64 5, .pointer (some ⟨g, 0, none⟩)] w fun e w' => e = .returned (.int .i64 (t / 65536 % 32)) ∧ ∃ m, w' = w.drewN m := by
  have e : bits .and .u32 (t / 65536) 31 = t / 65536 % 32 := and_mask _ 5 _ rfl (by decide) (by omega) (by omega)
  go_enter Try.func75, Try.ntmps75
  go_wp2_with fail
  go_quiet (fail)
  go_wp2_with fail
  go_ret
  exact ⟨rfl, nq, rfl⟩
theorem take_11 (w : World) (g : Nat) (t : Int) (h0 : 0 ≤ t) (h1 : t < 4294967296) (h : w.cell? ⟨g, 0, none⟩ = some (.int .u32 t)) :
    Calls Try.prog 75 #[.int .i64 11, .int .i64 5, .pointer (some ⟨g, 0, none⟩)] w fun e w' => e = .returned (.int .i64 (t / 2048 % 32)) ∧ ∃ m, w' = w.drewN m := by
  have e : bits .and .u32 (t / 2048) 31 = t / 2048 % 32 := and_mask _ 5 _ rfl (by decide) (by omega) (by omega)
  go_enter Try.func75, Try.ntmps75
  go_wp2_with fail
  go_quiet (fail)
  go_wp2_with fail
  go_ret
  exact ⟨rfl, nq, rfl⟩
theorem take_5 (w : World) (g : Nat) (t : Int) (h0 : 0 ≤ t) (h1 : t < 4294967296) (h : w.cell? ⟨g, 0, none⟩ = some (.int .u32 t)) :
    Calls Try.prog 75 #[.int .i64 5, .int .i64 6, .pointer (some ⟨g, 0, none⟩)] w fun e w' => e = .returned (.int .i64 (t / 32 % 64)) ∧ ∃ m, w' = w.drewN m := by
  have e : bits .and .u32 (t / 32) 63 = t / 32 % 64 := and_mask _ 6 _ rfl (by decide) (by omega) (by omega)
  go_enter Try.func75, Try.ntmps75
  go_wp2_with fail
  go_quiet (fail)
  go_wp2_with fail
  go_ret
  exact ⟨rfl, nq, rfl⟩
theorem take_0 (w : World) (g : Nat) (t : Int) (h0 : 0 ≤ t) (h1 : t < 4294967296) (h : w.cell? ⟨g, 0, none⟩ = some (.int .u32 t)) :
    Calls Try.prog 75 #[.int .i64 0, .int .i64 5, .pointer (some ⟨g, 0, none⟩)] w fun e w' => e = .returned (.int .i64 (t % 32)) ∧ ∃ m, w' = w.drewN m := by
  have e : bits .and .u32 (t) 31 = t % 32 := and_mask _ 5 _ rfl (by decide) (by omega) (by omega)
  go_enter Try.func75, Try.ntmps75
  go_wp2_with fail
  go_quiet (fail)
  go_wp2_with fail
  go_ret
  exact ⟨rfl, nq, rfl⟩
set_option maxHeartbeats 1000000 in
theorem split_any (w : World) (t : Int) (h0 : 0 ≤ t) (h1 : t < 4294967296) :
    Calls Try.prog 53 #[.int .u32 t] w fun e w' => e = .returned (.agg (Dt.v (splitD t))) ∧ Below w.heap.size w w' := by
  have hc : ((w.alloc (Obj.cells #[Value.int IntKind.u32 t] 22)).alloc (Obj.cells #[Value.int IntKind.i64 0, Value.int IntKind.i64 0, Value.int IntKind.i64 0, Value.int IntKind.i64 0, Value.int IntKind.i64 0, Value.int IntKind.i64 0] 26)).cell? ⟨w.heap.size, 0, none⟩ = some (.int .u32 t) := Blk.cell ((Blk.new w _ _).alloc _) 0
  have hg : Blk ((w.alloc (Obj.cells #[Value.int IntKind.u32 t] 22)).alloc (Obj.cells #[Value.int IntKind.i64 0, Value.int IntKind.i64 0, Value.int IntKind.i64 0, Value.int IntKind.i64 0, Value.int IntKind.i64 0, Value.int IntKind.i64 0] 26)) (w.heap.size + 1) 26 #[Value.int IntKind.i64 0, Value.int IntKind.i64 0, Value.int IntKind.i64 0, Value.int IntKind.i64 0, Value.int IntKind.i64 0, Value.int IntKind.i64 0] := by
    have h := Blk.new (w.alloc (Obj.cells #[Value.int IntKind.u32 t] 22)) 26 #[Value.int IntKind.i64 0, Value.int IntKind.i64 0, Value.int IntKind.i64 0, Value.int IntKind.i64 0, Value.int IntKind.i64 0, Value.int IntKind.i64 0]
    rw [World.size_alloc] at h
    exact h
  have hb : Below w.heap.size w ((w.alloc (Obj.cells #[Value.int IntKind.u32 t] 22)).alloc (Obj.cells #[Value.int IntKind.i64 0, Value.int IntKind.i64 0, Value.int IntKind.i64 0, Value.int IntKind.i64 0, Value.int IntKind.i64 0, Value.int IntKind.i64 0] 26)) := ((Below.refl w.heap.size w).alloc (Nat.le_refl _) _).alloc (by simp) _
  have HB := Lib.hid hb; clear hb
  go_enter Try.func53, Try.ntmps53
  go_wp2_with fail
  have HG := Lib.hid hg; clear hg
  have HC := Lib.hid hc; clear hc
  go_wp2_with (go_at_call 75; first | (((with_reducible refine (take_25 _ w.heap.size t h0 h1 ?_).mono ?_); exact HC.out; rintro e w' ⟨rfl, n25, rfl⟩)) | (((with_reducible refine (take_21 _ w.heap.size t h0 h1 ?_).mono ?_); exact HC.out; rintro e w' ⟨rfl, n21, rfl⟩)) | (((with_reducible refine (take_16 _ w.heap.size t h0 h1 ?_).mono ?_); exact HC.out; rintro e w' ⟨rfl, n16, rfl⟩)) | (((with_reducible refine (take_11 _ w.heap.size t h0 h1 ?_).mono ?_); exact HC.out; rintro e w' ⟨rfl, n11, rfl⟩)) | (((with_reducible refine (take_5 _ w.heap.size t h0 h1 ?_).mono ?_); exact HC.out; rintro e w' ⟨rfl, n5, rfl⟩)) | (((with_reducible refine (take_0 _ w.heap.size t h0 h1 ?_).mono ?_); exact HC.out; rintro e w' ⟨rfl, n0, rfl⟩)))
  have e0 : t / 33554432 % 128 = t / 33554432 := by omega
  have hrow : Dt.v (splitD t) = #[Value.int IntKind.i64 (1980 + t / 33554432 % 128), Value.int IntKind.i64 (t / 2097152 % 16), Value.int IntKind.i64 (t / 65536 % 32), Value.int IntKind.i64 (t / 2048 % 32), Value.int IntKind.i64 (t / 32 % 64), Value.int IntKind.i64 (2 * (t % 32))] := by
    rw [e0]; rfl
  rw [hrow]
  refine bodyPost_ret (results_cell_row rfl _ _ (w.heap.size + 1) 26 #[Value.int IntKind.i64 (1980 + t / 33554432 % 128), Value.int IntKind.i64 (t / 2097152 % 16), Value.int IntKind.i64 (t / 65536 % 32), Value.int IntKind.i64 (t / 2048 % 32), Value.int IntKind.i64 (t / 32 % 64), Value.int IntKind.i64 (2 * (t % 32))] (0, 0) _ rfl (((((((HG.out.drewN (n25 + n21 + n16 + n11 + n5 + n0)).put 0 (Value.int IntKind.i64 (1980 + t / 33554432 % 128))).put 1 (Value.int IntKind.i64 (t / 2097152 % 16))).put 2 (Value.int IntKind.i64 (t / 65536 % 32))).put 3 (Value.int IntKind.i64 (t / 2048 % 32))).put 4 (Value.int IntKind.i64 (t / 32 % 64))).put 5 (Value.int IntKind.i64 (2 * (t % 32)))) Try.underlying26 rfl (by kernel_rfl)) rfl ⟨rfl, ((((((below_drewN HB.out (n25 + n21 + n16 + n11 + n5 + n0)).setCell (by simp) _).setCell (by simp) _).setCell (by simp) _).setCell (by simp) _).setCell (by simp) _).setCell (by simp) _⟩
theorem right1_any (w : World) (n k : Int) (h0 : -9223372036854775808 ≤ n) (h1 : n ≤ 9223372036854775807) :
    Calls Try.prog 76 #[.int .i64 n, .int .i64 k] w fun e w' => e = .returned (.bool (decide (0 ≤ n ∧ n < k))) ∧ w = w' := by
  by_cases h : 0 ≤ n
  · have hd : decide (0 ≤ n ∧ n < k) = decide (n < k) := by simp [h]
    rw [hd]
    clear hd
    go_enter Try.func76, Try.ntmps76
    go_wp2_with fail
    go_ret
    exact ⟨rfl, rfl⟩
  · have hd : decide (0 ≤ n ∧ n < k) = false := by simp [h]
    rw [hd]
    clear hd
    go_enter Try.func76, Try.ntmps76
    go_wp2_with fail
    go_ret
    exact ⟨rfl, rfl⟩
def TimeAt (w : World) (g : Nat) (t : TypeId) (x : Dt) (W : World) : Prop := Blk W g t (Dt.v x) ∧ Below w.heap.size w W
theorem TimeAt.cells {w W : World} {g : Nat} {t : TypeId} {x : Dt} (h : TimeAt w g t x W) : W.cell? ⟨g, 0, none⟩ = some (.int .i64 x.y) ∧ W.cell? ⟨g, 1, none⟩ = some (.int .i64 x.m) ∧ W.cell? ⟨g, 2, none⟩ = some (.int .i64 x.d) ∧ W.cell? ⟨g, 3, none⟩ = some (.int .i64 x.h) ∧ W.cell? ⟨g, 4, none⟩ = some (.int .i64 x.mi) ∧ W.cell? ⟨g, 5, none⟩ = some (.int .i64 x.s) ∧ TimeAt w g t x W :=
  ⟨h.1.cell 0, h.1.cell 1, h.1.cell 2, h.1.cell 3, h.1.cell 4, h.1.cell 5, h⟩
theorem TimeAt.below {w W W' : World} {g : Nat} {t : TypeId} {x : Dt} (h : TimeAt w g t x W) (hb : Below W.heap.size W W') : TimeAt w g t x W' := ⟨h.1.below hb h.1.lt, h.2.trans (hb.mono h.2.size)⟩
set_option maxRecDepth 100000 in
set_option maxHeartbeats 40000000 in
theorem right_any (w : World) (x : Dt) (hx : Dt.In x) :
    Calls Try.prog 54 #[.agg (Dt.v x)] w fun e w' => e = .returned (.bool (decide x.Ok)) ∧ Below w.heap.size w w' := by
  have hT : TimeAt w w.heap.size 26 x (w.alloc (Obj.cells (Dt.v x) 26)) := ⟨Blk.new _ _ _, (Below.refl _ _).alloc (Nat.le_refl _) _⟩
  have HTD := Lib.hid (show TimeAt w w.heap.size 26 x (w.alloc (Obj.cells (Dt.v x) 26)).drew from ⟨hT.1, hT.2.drew⟩)
  have hD := fun W => days_any W x.y x.m hx.y0 hx.y1 hx.m0 hx.m1
  have hdl := daysI_le x.y x.m
  have hOk : x.Ok = (1 ≤ x.d ∧ x.d ≤ daysI x.y x.m ∧ 0 ≤ x.h ∧ x.h < 24 ∧ 0 ≤ x.mi ∧ x.mi < 60 ∧ 0 ≤ x.s ∧ x.s < 60 ∧ x.s % 2 = 0) := rfl
  generalize hdy : daysI x.y x.m = dy at *
  have HD := Lib.hid hD; clear hD
  have HOK := Lib.hid hOk; clear hOk
  have h3 := fun W => right1_any W x.h 24 hx.h0 hx.h1
  have h4 := fun W => right1_any W x.mi 60 hx.i0 hx.i1
  have h5 := fun W => right1_any W x.s 60 hx.s0 hx.s1
  have hm2 : (x.s.tmod 2 == 0) = decide (x.s % 2 = 0) := by rw [Bool.eq_iff_iff, beq_iff_eq, decide_eq_true_iff, ← Int.dvd_iff_tmod_eq_zero, ← Int.dvd_iff_emod_eq_zero]
  have HM2 := Lib.hid hm2; clear hm2
  clear hT hdy
  have q0 : ∀ n : Held (TimeAt w w.heap.size 26 x), (HeldW n).cell? ⟨w.heap.size, 0, none⟩ = some (.int .i64 x.y) := fun n => (HeldW_spec n).1.cell 0
  have q1 : ∀ n : Held (TimeAt w w.heap.size 26 x), (HeldW n).cell? ⟨w.heap.size, 1, none⟩ = some (.int .i64 x.m) := fun n => (HeldW_spec n).1.cell 1
  have q2 : ∀ n : Held (TimeAt w w.heap.size 26 x), (HeldW n).cell? ⟨w.heap.size, 2, none⟩ = some (.int .i64 x.d) := fun n => (HeldW_spec n).1.cell 2
  have q3 : ∀ n : Held (TimeAt w w.heap.size 26 x), (HeldW n).cell? ⟨w.heap.size, 3, none⟩ = some (.int .i64 x.h) := fun n => (HeldW_spec n).1.cell 3
  have q4 : ∀ n : Held (TimeAt w w.heap.size 26 x), (HeldW n).cell? ⟨w.heap.size, 4, none⟩ = some (.int .i64 x.mi) := fun n => (HeldW_spec n).1.cell 4
  have q5 : ∀ n : Held (TimeAt w w.heap.size 26 x), (HeldW n).cell? ⟨w.heap.size, 5, none⟩ = some (.int .i64 x.s) := fun n => (HeldW_spec n).1.cell 5
  haveI : Nonempty (Held (TimeAt w w.heap.size 26 x)) := held_some HTD.out
  obtain ⟨y0, y1, m0, m1, d0, d1, hh0, hh1, i0, i1, s0, s1⟩ := hx
  by_cases c0 : 1 ≤ x.d
  · skip
    by_cases c1 : x.d ≤ dy
    · skip
      by_cases c2 : 0 ≤ x.h ∧ x.h < 24
      · skip
        have H3 := Lib.hid (fun W => by have k := h3 W; rw [decide_eq_true c2] at k; exact k)
        by_cases c3 : 0 ≤ x.mi ∧ x.mi < 60
        · skip
          have H4 := Lib.hid (fun W => by have k := h4 W; rw [decide_eq_true c3] at k; exact k)
          by_cases c4 : 0 ≤ x.s ∧ x.s < 60
          · skip
            have H5 := Lib.hid (fun W => by have k := h5 W; rw [decide_eq_true c4] at k; exact k)
            by_cases c5 : x.s % 2 = 0
            · skip
              have t2 : (x.s.tmod 2 == 0) = true := by rw [HM2.out]; exact decide_eq_true c5
              have HR := Lib.hid (show decide x.Ok = true by rw [decide_eq_true_iff, HOK.out]; omega)
              go_enter Try.func54, Try.ntmps54
              go_wp2_with fail
              refine wp_region_class (TimeAt w w.heap.size 26 x) (by kernel_rfl) (by kernel_rfl) HTD.out ?_
              repeat (go_big_quiet_step (first | with_reducible exact held_below (fun _ _ => TimeAt.below) (HD.out _) | with_reducible exact held_same (H3.out _) | with_reducible exact held_same (H4.out _) | with_reducible exact held_same (H5.out _)))
              refine wpQuiet_nil ?_
              rintro _ ⟨n, rfl⟩
              go_wp2_with fail
              go_ret
              rw [HR.out]
              exact ⟨by first | (simp; done) | (simp; omega), (HeldW_spec n).2⟩
            · skip
              have t2 : (x.s.tmod 2 == 0) = false := by rw [HM2.out]; exact decide_eq_false c5
              have HR := Lib.hid (show decide x.Ok = false by rw [decide_eq_false_iff_not, HOK.out]; omega)
              go_enter Try.func54, Try.ntmps54
              go_wp2_with fail
              refine wp_region_class (TimeAt w w.heap.size 26 x) (by kernel_rfl) (by kernel_rfl) HTD.out ?_
              repeat (go_big_quiet_step (first | with_reducible exact held_below (fun _ _ => TimeAt.below) (HD.out _) | with_reducible exact held_same (H3.out _) | with_reducible exact held_same (H4.out _) | with_reducible exact held_same (H5.out _)))
              refine wpQuiet_nil ?_
              rintro _ ⟨n, rfl⟩
              go_wp2_with fail
              go_ret
              rw [HR.out]
              exact ⟨by first | (simp; done) | (simp; omega), (HeldW_spec n).2⟩
          · skip
            have H5 := Lib.hid (fun W => by have k := h5 W; rw [decide_eq_false c4] at k; exact k)
            have HR := Lib.hid (show decide x.Ok = false by rw [decide_eq_false_iff_not, HOK.out]; omega)
            go_enter Try.func54, Try.ntmps54
            go_wp2_with fail
            refine wp_region_class (TimeAt w w.heap.size 26 x) (by kernel_rfl) (by kernel_rfl) HTD.out ?_
            repeat (go_big_quiet_step (first | with_reducible exact held_below (fun _ _ => TimeAt.below) (HD.out _) | with_reducible exact held_same (H3.out _) | with_reducible exact held_same (H4.out _) | with_reducible exact held_same (H5.out _)))
            refine wpQuiet_nil ?_
            rintro _ ⟨n, rfl⟩
            go_wp2_with fail
            go_ret
            rw [HR.out]
            exact ⟨by first | (simp; done) | (simp; omega), (HeldW_spec n).2⟩
        · skip
          have H4 := Lib.hid (fun W => by have k := h4 W; rw [decide_eq_false c3] at k; exact k)
          have HR := Lib.hid (show decide x.Ok = false by rw [decide_eq_false_iff_not, HOK.out]; omega)
          go_enter Try.func54, Try.ntmps54
          go_wp2_with fail
          refine wp_region_class (TimeAt w w.heap.size 26 x) (by kernel_rfl) (by kernel_rfl) HTD.out ?_
          repeat (go_big_quiet_step (first | with_reducible exact held_below (fun _ _ => TimeAt.below) (HD.out _) | with_reducible exact held_same (H3.out _) | with_reducible exact held_same (H4.out _) | with_reducible exact held_same (H5.out _)))
          refine wpQuiet_nil ?_
          rintro _ ⟨n, rfl⟩
          go_wp2_with fail
          go_ret
          rw [HR.out]
          exact ⟨by first | (simp; done) | (simp; omega), (HeldW_spec n).2⟩
      · skip
        have H3 := Lib.hid (fun W => by have k := h3 W; rw [decide_eq_false c2] at k; exact k)
        have HR := Lib.hid (show decide x.Ok = false by rw [decide_eq_false_iff_not, HOK.out]; omega)
        go_enter Try.func54, Try.ntmps54
        go_wp2_with fail
        refine wp_region_class (TimeAt w w.heap.size 26 x) (by kernel_rfl) (by kernel_rfl) HTD.out ?_
        repeat (go_big_quiet_step (first | with_reducible exact held_below (fun _ _ => TimeAt.below) (HD.out _) | with_reducible exact held_same (H3.out _) | with_reducible exact held_same (H4.out _) | with_reducible exact held_same (H5.out _)))
        refine wpQuiet_nil ?_
        rintro _ ⟨n, rfl⟩
        go_wp2_with fail
        go_ret
        rw [HR.out]
        exact ⟨by first | (simp; done) | (simp; omega), (HeldW_spec n).2⟩
    · skip
      have t1f : decide (x.d ≤ dy) = false := decide_eq_false c1
      have HR := Lib.hid (show decide x.Ok = false by rw [decide_eq_false_iff_not, HOK.out]; omega)
      go_enter Try.func54, Try.ntmps54
      go_wp2_with fail
      refine wp_region_class (TimeAt w w.heap.size 26 x) (by kernel_rfl) (by kernel_rfl) HTD.out ?_
      repeat (go_big_quiet_step (first | with_reducible exact held_below (fun _ _ => TimeAt.below) (HD.out _) | with_reducible exact held_same (H3.out _) | with_reducible exact held_same (H4.out _) | with_reducible exact held_same (H5.out _)))
      refine wpQuiet_nil ?_
      rintro _ ⟨n, rfl⟩
      go_wp2_with fail
      go_ret
      rw [HR.out]
      exact ⟨by first | (simp; done) | (simp; omega), (HeldW_spec n).2⟩
  · skip
    have t0f : decide (1 ≤ x.d) = false := decide_eq_false c0
    have HR := Lib.hid (show decide x.Ok = false by rw [decide_eq_false_iff_not, HOK.out]; omega)
    go_enter Try.func54, Try.ntmps54
    go_wp2_with fail
    refine wp_region_class (TimeAt w w.heap.size 26 x) (by kernel_rfl) (by kernel_rfl) HTD.out ?_
    repeat (go_big_quiet_step (first | with_reducible exact held_below (fun _ _ => TimeAt.below) (HD.out _) | with_reducible exact held_same (H3.out _) | with_reducible exact held_same (H4.out _) | with_reducible exact held_same (H5.out _)))
    refine wpQuiet_nil ?_
    rintro _ ⟨n, rfl⟩
    go_wp2_with fail
    go_ret
    rw [HR.out]
    exact ⟨by simp, (HeldW_spec n).2⟩
end Go.Proofs.Ythmlfeaoaanmoaa
