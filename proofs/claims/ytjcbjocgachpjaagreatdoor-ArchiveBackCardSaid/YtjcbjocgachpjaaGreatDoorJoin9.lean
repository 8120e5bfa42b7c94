/- Several texts, joined for the limit of sixty files; each one opens with its own comment. -/
import Derived.Test.YtjcbjocgachpjaaGreatDoorJoin8
import Derived.Test.YtjcbjocgachpjaaGreatDoorJoin5
import Derived.Laws.BitsAllLaws
import Derived.Deep.WholeRow
/- Contracts of the parts of a time, and of whether parts may be. -/
set_option linter.unusedVariables false
namespace Go.Proofs.YtjcbjocgachpjaaGreatDoor
open Go.RowKit
open Sw
def Dt.v (x : Dt) : Array Value := #[.int .i64 x.y, .int .i64 x.m, .int .i64 x.d, .int .i64 x.h, .int .i64 x.mi, .int .i64 x.s]
/-- numbers that an int64 has -/
structure Dt.In (x : Dt) : Prop where
  y0 : -9223372036854775808 ≤ x.y
  y1 : x.y ≤ 9223372036854775807
  m0 : -9223372036854775808 ≤ x.m
  m1 : x.m ≤ 9223372036854775807
  d0 : -9223372036854775808 ≤ x.d
  d1 : x.d ≤ 9223372036854775807
  h0 : -9223372036854775808 ≤ x.h
  h1 : x.h ≤ 9223372036854775807
  i0 : -9223372036854775808 ≤ x.mi
  i1 : x.mi ≤ 9223372036854775807
  s0 : -9223372036854775808 ≤ x.s
  s1 : x.s ≤ 9223372036854775807
theorem splitD_in (t : Int) (h0 : 0 ≤ t) (h1 : t < 4294967296) : Dt.In (splitD t) := by
  constructor <;> (simp only [splitD]; omega)
theorem and_mask (x : Int) (k : Nat) (m : Int) (hm : m = ((2 ^ k - 1 : Nat) : Int)) (hk : 2 ^ k - 1 < 4294967296) (h0 : 0 ≤ x) (h1 : x < 4294967296) : bits .and .u32 x m = x % ((2 ^ k : Nat) : Int) := by
  obtain ⟨x, rfl⟩ := Int.eq_ofNat_of_zero_le h0
  rw [hm, u32_and_nat x (2 ^ k - 1) (by omega) hk, Nat.and_two_pow_sub_one_eq_mod]
  exact Int.natCast_emod _ _

theorem take_25 (w : World) (g : Nat) (t : Int) (h0 : 0 ≤ t) (h1 : t < 4294967296) (h : w.cell? ⟨g, 0, none⟩ = some (.int .u32 t)) :
    Calls Tryz.prog 151 #[.int .i64 25, .int .i64 7, .pointer (some ⟨g, 0, none⟩)] w fun e w' => e = .returned (.int .i64 (t / 33554432 % 128)) ∧ ∃ m, w' = w.drewN m := by
  have e : bits .and .u32 (t / 33554432) 127 = t / 33554432 % 128 := and_mask _ 7 _ rfl (by decide) (by omega) (by omega)
  go_enter Tryz.func151, Tryz.ntmps151
  go_wp2_with fail
  go_quiet (fail)
  go_wp2_with fail
  go_ret
  exact ⟨rfl, nq, rfl⟩
theorem take_21 (w : World) (g : Nat) (t : Int) (h0 : 0 ≤ t) (h1 : t < 4294967296) (h : w.cell? ⟨g, 0, none⟩ = some (.int .u32 t)) :
    Calls Tryz.prog 151 #[.int .i64 21, .int .i64 4, .pointer (some ⟨g, 0, none⟩)] w fun e w' => e = .returned (.int .i64 (t / 2097152 % 16)) ∧ ∃ m, w' = w.drewN m := by
  have e : bits .and .u32 (t / 2097152) 15 = t / 2097152 % 16 := and_mask _ 4 _ rfl (by decide) (by omega) (by omega)
  go_enter Tryz.func151, Tryz.ntmps151
  go_wp2_with fail
  go_quiet (fail)
  go_wp2_with fail
  go_ret
  exact ⟨rfl, nq, rfl⟩
theorem take_16 (w : World) (g : Nat) (t : Int) (h0 : 0 ≤ t) (h1 : t < 4294967296) (h : w.cell? ⟨g, 0, none⟩ = some (.int .u32 t)) :
    Calls Tryz.prog 151 #[.int .i64 16, .int .i64 5, .pointer (some ⟨g, 0, none⟩)] w fun e w' => e = .returned (.int .i64 (t / 65536 % 32)) ∧ ∃ m, w' = w.drewN m := by
  have e : bits .and .u32 (t / 65536) 31 = t / 65536 % 32 := and_mask _ 5 _ rfl (by decide) (by omega) (by omega)
  go_enter Tryz.func151, Tryz.ntmps151
  go_wp2_with fail
  go_quiet (fail)
  go_wp2_with fail
  go_ret
  exact ⟨rfl, nq, rfl⟩
theorem take_11 (w : World) (g : Nat) (t : Int) (h0 : 0 ≤ t) (h1 : t < 4294967296) (h : w.cell? ⟨g, 0, none⟩ = some (.int .u32 t)) :
    Calls Tryz.prog 151 #[.int .i64 11, .int .i64 5, .pointer (some ⟨g, 0, none⟩)] w fun e w' => e = .returned (.int .i64 (t / 2048 % 32)) ∧ ∃ m, w' = w.drewN m := by
  have e : bits .and .u32 (t / 2048) 31 = t / 2048 % 32 := and_mask _ 5 _ rfl (by decide) (by omega) (by omega)
  go_enter Tryz.func151, Tryz.ntmps151
  go_wp2_with fail
  go_quiet (fail)
  go_wp2_with fail
  go_ret
  exact ⟨rfl, nq, rfl⟩
theorem take_5 (w : World) (g : Nat) (t : Int) (h0 : 0 ≤ t) (h1 : t < 4294967296) (h : w.cell? ⟨g, 0, none⟩ = some (.int .u32 t)) :
    Calls Tryz.prog 151 #[.int .i64 5, .int .i64 6, .pointer (some ⟨g, 0, none⟩)] w fun e w' => e = .returned (.int .i64 (t / 32 % 64)) ∧ ∃ m, w' = w.drewN m := by
  have e : bits .and .u32 (t / 32) 63 = t / 32 % 64 := and_mask _ 6 _ rfl (by decide) (by omega) (by omega)
  go_enter Tryz.func151, Tryz.ntmps151
  go_wp2_with fail
  go_quiet (fail)
  go_wp2_with fail
  go_ret
  exact ⟨rfl, nq, rfl⟩
theorem take_0 (w : World) (g : Nat) (t : Int) (h0 : 0 ≤ t) (h1 : t < 4294967296) (h : w.cell? ⟨g, 0, none⟩ = some (.int .u32 t)) :
    Calls Tryz.prog 151 #[.int .i64 0, .int .i64 5, .pointer (some ⟨g, 0, none⟩)] w fun e w' => e = .returned (.int .i64 (t % 32)) ∧ ∃ m, w' = w.drewN m := by
  have e : bits .and .u32 (t) 31 = t % 32 := and_mask _ 5 _ rfl (by decide) (by omega) (by omega)
  go_enter Tryz.func151, Tryz.ntmps151
  go_wp2_with fail
  go_quiet (fail)
  go_wp2_with fail
  go_ret
  exact ⟨rfl, nq, rfl⟩
set_option maxHeartbeats 1000000 in
theorem split_any (w : World) (t : Int) (h0 : 0 ≤ t) (h1 : t < 4294967296) :
    Calls Tryz.prog 130 #[.int .u32 t] w fun e w' => e = .returned (.agg (Dt.v (splitD t))) ∧ Below w.heap.size w w' := by
  have hc : ((w.alloc (Obj.cells #[Value.int IntKind.u32 t] 41)).alloc (Obj.cells #[Value.int IntKind.i64 0, Value.int IntKind.i64 0, Value.int IntKind.i64 0, Value.int IntKind.i64 0, Value.int IntKind.i64 0, Value.int IntKind.i64 0] 147)).cell? ⟨w.heap.size, 0, none⟩ = some (.int .u32 t) := Blk.cell ((Blk.new w _ _).alloc _) 0
  have hg : Blk ((w.alloc (Obj.cells #[Value.int IntKind.u32 t] 41)).alloc (Obj.cells #[Value.int IntKind.i64 0, Value.int IntKind.i64 0, Value.int IntKind.i64 0, Value.int IntKind.i64 0, Value.int IntKind.i64 0, Value.int IntKind.i64 0] 147)) (w.heap.size + 1) 147 #[Value.int IntKind.i64 0, Value.int IntKind.i64 0, Value.int IntKind.i64 0, Value.int IntKind.i64 0, Value.int IntKind.i64 0, Value.int IntKind.i64 0] := by
    have h := Blk.new (w.alloc (Obj.cells #[Value.int IntKind.u32 t] 41)) 147 #[Value.int IntKind.i64 0, Value.int IntKind.i64 0, Value.int IntKind.i64 0, Value.int IntKind.i64 0, Value.int IntKind.i64 0, Value.int IntKind.i64 0]
    rw [World.size_alloc] at h
    exact h
  have hb : Below w.heap.size w ((w.alloc (Obj.cells #[Value.int IntKind.u32 t] 41)).alloc (Obj.cells #[Value.int IntKind.i64 0, Value.int IntKind.i64 0, Value.int IntKind.i64 0, Value.int IntKind.i64 0, Value.int IntKind.i64 0, Value.int IntKind.i64 0] 147)) := ((Below.refl w.heap.size w).alloc (Nat.le_refl _) _).alloc (by simp) _
  have HB := Lib.hid hb; clear hb
  go_enter Tryz.func130, Tryz.ntmps130
  go_wp2_with fail
  have HG := Lib.hid hg; clear hg
  have HC := Lib.hid hc; clear hc
  go_wp2_with (go_at_call 151; first | (((with_reducible refine (take_25 _ w.heap.size t h0 h1 ?_).mono ?_); exact HC.out; rintro e w' ⟨rfl, n25, rfl⟩)) | (((with_reducible refine (take_21 _ w.heap.size t h0 h1 ?_).mono ?_); exact HC.out; rintro e w' ⟨rfl, n21, rfl⟩)) | (((with_reducible refine (take_16 _ w.heap.size t h0 h1 ?_).mono ?_); exact HC.out; rintro e w' ⟨rfl, n16, rfl⟩)) | (((with_reducible refine (take_11 _ w.heap.size t h0 h1 ?_).mono ?_); exact HC.out; rintro e w' ⟨rfl, n11, rfl⟩)) | (((with_reducible refine (take_5 _ w.heap.size t h0 h1 ?_).mono ?_); exact HC.out; rintro e w' ⟨rfl, n5, rfl⟩)) | (((with_reducible refine (take_0 _ w.heap.size t h0 h1 ?_).mono ?_); exact HC.out; rintro e w' ⟨rfl, n0, rfl⟩)))
  have e0 : t / 33554432 % 128 = t / 33554432 := by omega
  have hrow : Dt.v (splitD t) = #[Value.int IntKind.i64 (1980 + t / 33554432 % 128), Value.int IntKind.i64 (t / 2097152 % 16), Value.int IntKind.i64 (t / 65536 % 32), Value.int IntKind.i64 (t / 2048 % 32), Value.int IntKind.i64 (t / 32 % 64), Value.int IntKind.i64 (2 * (t % 32))] := by
    rw [e0]; rfl
  rw [hrow]
  refine bodyPost_ret (results_cell_row rfl _ _ (w.heap.size + 1) 147 #[Value.int IntKind.i64 (1980 + t / 33554432 % 128), Value.int IntKind.i64 (t / 2097152 % 16), Value.int IntKind.i64 (t / 65536 % 32), Value.int IntKind.i64 (t / 2048 % 32), Value.int IntKind.i64 (t / 32 % 64), Value.int IntKind.i64 (2 * (t % 32))] (0, 0) _ rfl (((((((HG.out.drewN (n25 + n21 + n16 + n11 + n5 + n0)).put 0 (Value.int IntKind.i64 (1980 + t / 33554432 % 128))).put 1 (Value.int IntKind.i64 (t / 2097152 % 16))).put 2 (Value.int IntKind.i64 (t / 65536 % 32))).put 3 (Value.int IntKind.i64 (t / 2048 % 32))).put 4 (Value.int IntKind.i64 (t / 32 % 64))).put 5 (Value.int IntKind.i64 (2 * (t % 32)))) Tryz.underlying147 rfl (by kernel_rfl)) rfl ⟨rfl, ((((((below_drewN HB.out (n25 + n21 + n16 + n11 + n5 + n0)).setCell (by simp) _).setCell (by simp) _).setCell (by simp) _).setCell (by simp) _).setCell (by simp) _).setCell (by simp) _⟩
theorem right1_any (w : World) (n k : Int) (h0 : -9223372036854775808 ≤ n) (h1 : n ≤ 9223372036854775807) :
    Calls Tryz.prog 152 #[.int .i64 n, .int .i64 k] w fun e w' => e = .returned (.bool (decide (0 ≤ n ∧ n < k))) ∧ w = w' := by
  by_cases h : 0 ≤ n
  · have hd : decide (0 ≤ n ∧ n < k) = decide (n < k) := by simp [h]
    rw [hd]
    clear hd
    go_enter Tryz.func152, Tryz.ntmps152
    go_wp2_with fail
    go_ret
    exact ⟨rfl, rfl⟩
  · have hd : decide (0 ≤ n ∧ n < k) = false := by simp [h]
    rw [hd]
    clear hd
    go_enter Tryz.func152, Tryz.ntmps152
    go_wp2_with fail
    go_ret
    exact ⟨rfl, rfl⟩
def TimeAt (w : World) (g : Nat) (t : TypeId) (x : Dt) (W : World) : Prop := Blk W g t (Dt.v x) ∧ Below w.heap.size w W
theorem TimeAt.cells {w W : World} {g : Nat} {t : TypeId} {x : Dt} (h : TimeAt w g t x W) : W.cell? ⟨g, 0, none⟩ = some (.int .i64 x.y) ∧ W.cell? ⟨g, 1, none⟩ = some (.int .i64 x.m) ∧ W.cell? ⟨g, 2, none⟩ = some (.int .i64 x.d) ∧ W.cell? ⟨g, 3, none⟩ = some (.int .i64 x.h) ∧ W.cell? ⟨g, 4, none⟩ = some (.int .i64 x.mi) ∧ W.cell? ⟨g, 5, none⟩ = some (.int .i64 x.s) ∧ TimeAt w g t x W :=
  ⟨h.1.cell 0, h.1.cell 1, h.1.cell 2, h.1.cell 3, h.1.cell 4, h.1.cell 5, h⟩
theorem TimeAt.below {w W W' : World} {g : Nat} {t : TypeId} {x : Dt} (h : TimeAt w g t x W) (hb : Below W.heap.size W W') : TimeAt w g t x W' := ⟨h.1.below hb h.1.lt, h.2.trans (hb.mono h.2.size)⟩
set_option maxRecDepth 100000 in
set_option maxHeartbeats 40000000 in
theorem dosRt_any (w : World) (x : Dt) (hx : Dt.In x) :
    Calls Tryz.prog 131 #[.agg (Dt.v x)] w fun e w' => e = .returned (.bool (decide x.Ok)) ∧ Below w.heap.size w w' := by
  have hT : TimeAt w w.heap.size 147 x (w.alloc (Obj.cells (Dt.v x) 147)) := ⟨Blk.new _ _ _, (Below.refl _ _).alloc (Nat.le_refl _) _⟩
  have HTD := Lib.hid (show TimeAt w w.heap.size 147 x (w.alloc (Obj.cells (Dt.v x) 147)).drew from ⟨hT.1, hT.2.drew⟩)
  have hD := fun W => days_any W x.y x.m hx.y0 hx.y1 hx.m0 hx.m1
  have hdl := daysI_le x.y x.m
  have hOk : x.Ok = (1 ≤ x.d ∧ x.d ≤ daysI x.y x.m ∧ 0 ≤ x.h ∧ x.h < 24 ∧ 0 ≤ x.mi ∧ x.mi < 60 ∧ 0 ≤ x.s ∧ x.s < 60 ∧ x.s % 2 = 0) := rfl
  generalize hdy : daysI x.y x.m = dy at *
  have HD := Lib.hid hD; clear hD
  have HOK := Lib.hid hOk; clear hOk
  have h3 := fun W => right1_any W x.h 24 hx.h0 hx.h1
  have h4 := fun W => right1_any W x.mi 60 hx.i0 hx.i1
  have h5 := fun W => right1_any W x.s 60 hx.s0 hx.s1
  have hm2 : (x.s.tmod 2 == 0) = decide (x.s % 2 = 0) := by rw [Bool.eq_iff_iff, beq_iff_eq, decide_eq_true_iff, ← Int.dvd_iff_tmod_eq_zero, ← Int.dvd_iff_emod_eq_zero]
  have HM2 := Lib.hid hm2; clear hm2
  clear hT hdy
  have q0 : ∀ n : Held (TimeAt w w.heap.size 147 x), (HeldW n).cell? ⟨w.heap.size, 0, none⟩ = some (.int .i64 x.y) := fun n => (HeldW_spec n).1.cell 0
  have q1 : ∀ n : Held (TimeAt w w.heap.size 147 x), (HeldW n).cell? ⟨w.heap.size, 1, none⟩ = some (.int .i64 x.m) := fun n => (HeldW_spec n).1.cell 1
  have q2 : ∀ n : Held (TimeAt w w.heap.size 147 x), (HeldW n).cell? ⟨w.heap.size, 2, none⟩ = some (.int .i64 x.d) := fun n => (HeldW_spec n).1.cell 2
  have q3 : ∀ n : Held (TimeAt w w.heap.size 147 x), (HeldW n).cell? ⟨w.heap.size, 3, none⟩ = some (.int .i64 x.h) := fun n => (HeldW_spec n).1.cell 3
  have q4 : ∀ n : Held (TimeAt w w.heap.size 147 x), (HeldW n).cell? ⟨w.heap.size, 4, none⟩ = some (.int .i64 x.mi) := fun n => (HeldW_spec n).1.cell 4
  have q5 : ∀ n : Held (TimeAt w w.heap.size 147 x), (HeldW n).cell? ⟨w.heap.size, 5, none⟩ = some (.int .i64 x.s) := fun n => (HeldW_spec n).1.cell 5
  haveI : Nonempty (Held (TimeAt w w.heap.size 147 x)) := held_some HTD.out
  obtain ⟨y0, y1, m0, m1, d0, d1, hh0, hh1, i0, i1, s0, s1⟩ := hx
  by_cases c0 : 1 ≤ x.d
  · skip
    by_cases c1 : x.d ≤ dy
    · skip
      by_cases c2 : 0 ≤ x.h ∧ x.h < 24
      · skip
        have H3 := Lib.hid (fun W => by have k := h3 W; rw [decide_eq_true c2] at k; exact k)
        by_cases c3 : 0 ≤ x.mi ∧ x.mi < 60
        · skip
          have H4 := Lib.hid (fun W => by have k := h4 W; rw [decide_eq_true c3] at k; exact k)
          by_cases c4 : 0 ≤ x.s ∧ x.s < 60
          · skip
            have H5 := Lib.hid (fun W => by have k := h5 W; rw [decide_eq_true c4] at k; exact k)
            by_cases c5 : x.s % 2 = 0
            · skip
              have t2 : (x.s.tmod 2 == 0) = true := by rw [HM2.out]; exact decide_eq_true c5
              have HR := Lib.hid (show decide x.Ok = true by rw [decide_eq_true_iff, HOK.out]; omega)
              go_enter Tryz.func131, Tryz.ntmps131
              go_wp2_with fail
              refine wp_region_class (TimeAt w w.heap.size 147 x) (by kernel_rfl) (by kernel_rfl) HTD.out ?_
              repeat (go_big_quiet_step (first | with_reducible exact held_below (fun _ _ => TimeAt.below) (HD.out _) | with_reducible exact held_same (H3.out _) | with_reducible exact held_same (H4.out _) | with_reducible exact held_same (H5.out _)))
              refine wpQuiet_nil ?_
              rintro _ ⟨n, rfl⟩
              go_wp2_with fail
              go_ret
              rw [HR.out]
              exact ⟨by first | (simp; done) | (simp; omega), (HeldW_spec n).2⟩
            · skip
              have t2 : (x.s.tmod 2 == 0) = false := by rw [HM2.out]; exact decide_eq_false c5
              have HR := Lib.hid (show decide x.Ok = false by rw [decide_eq_false_iff_not, HOK.out]; omega)
              go_enter Tryz.func131, Tryz.ntmps131
              go_wp2_with fail
              refine wp_region_class (TimeAt w w.heap.size 147 x) (by kernel_rfl) (by kernel_rfl) HTD.out ?_
              repeat (go_big_quiet_step (first | with_reducible exact held_below (fun _ _ => TimeAt.below) (HD.out _) | with_reducible exact held_same (H3.out _) | with_reducible exact held_same (H4.out _) | with_reducible exact held_same (H5.out _)))
              refine wpQuiet_nil ?_
              rintro _ ⟨n, rfl⟩
              go_wp2_with fail
              go_ret
              rw [HR.out]
              exact ⟨by first | (simp; done) | (simp; omega), (HeldW_spec n).2⟩
          · skip
            have H5 := Lib.hid (fun W => by have k := h5 W; rw [decide_eq_false c4] at k; exact k)
            have HR := Lib.hid (show decide x.Ok = false by rw [decide_eq_false_iff_not, HOK.out]; omega)
            go_enter Tryz.func131, Tryz.ntmps131
            go_wp2_with fail
            refine wp_region_class (TimeAt w w.heap.size 147 x) (by kernel_rfl) (by kernel_rfl) HTD.out ?_
            repeat (go_big_quiet_step (first | with_reducible exact held_below (fun _ _ => TimeAt.below) (HD.out _) | with_reducible exact held_same (H3.out _) | with_reducible exact held_same (H4.out _) | with_reducible exact held_same (H5.out _)))
            refine wpQuiet_nil ?_
            rintro _ ⟨n, rfl⟩
            go_wp2_with fail
            go_ret
            rw [HR.out]
            exact ⟨by first | (simp; done) | (simp; omega), (HeldW_spec n).2⟩
        · skip
          have H4 := Lib.hid (fun W => by have k := h4 W; rw [decide_eq_false c3] at k; exact k)
          have HR := Lib.hid (show decide x.Ok = false by rw [decide_eq_false_iff_not, HOK.out]; omega)
          go_enter Tryz.func131, Tryz.ntmps131
          go_wp2_with fail
          refine wp_region_class (TimeAt w w.heap.size 147 x) (by kernel_rfl) (by kernel_rfl) HTD.out ?_
          repeat (go_big_quiet_step (first | with_reducible exact held_below (fun _ _ => TimeAt.below) (HD.out _) | with_reducible exact held_same (H3.out _) | with_reducible exact held_same (H4.out _) | with_reducible exact held_same (H5.out _)))
          refine wpQuiet_nil ?_
          rintro _ ⟨n, rfl⟩
          go_wp2_with fail
          go_ret
          rw [HR.out]
          exact ⟨by first | (simp; done) | (simp; omega), (HeldW_spec n).2⟩
      · skip
        have H3 := Lib.hid (fun W => by have k := h3 W; rw [decide_eq_false c2] at k; exact k)
        have HR := Lib.hid (show decide x.Ok = false by rw [decide_eq_false_iff_not, HOK.out]; omega)
        go_enter Tryz.func131, Tryz.ntmps131
        go_wp2_with fail
        refine wp_region_class (TimeAt w w.heap.size 147 x) (by kernel_rfl) (by kernel_rfl) HTD.out ?_
        repeat (go_big_quiet_step (first | with_reducible exact held_below (fun _ _ => TimeAt.below) (HD.out _) | with_reducible exact held_same (H3.out _) | with_reducible exact held_same (H4.out _) | with_reducible exact held_same (H5.out _)))
        refine wpQuiet_nil ?_
        rintro _ ⟨n, rfl⟩
        go_wp2_with fail
        go_ret
        rw [HR.out]
        exact ⟨by first | (simp; done) | (simp; omega), (HeldW_spec n).2⟩
    · skip
      have t1f : decide (x.d ≤ dy) = false := decide_eq_false c1
      have HR := Lib.hid (show decide x.Ok = false by rw [decide_eq_false_iff_not, HOK.out]; omega)
      go_enter Tryz.func131, Tryz.ntmps131
      go_wp2_with fail
      refine wp_region_class (TimeAt w w.heap.size 147 x) (by kernel_rfl) (by kernel_rfl) HTD.out ?_
      repeat (go_big_quiet_step (first | with_reducible exact held_below (fun _ _ => TimeAt.below) (HD.out _) | with_reducible exact held_same (H3.out _) | with_reducible exact held_same (H4.out _) | with_reducible exact held_same (H5.out _)))
      refine wpQuiet_nil ?_
      rintro _ ⟨n, rfl⟩
      go_wp2_with fail
      go_ret
      rw [HR.out]
      exact ⟨by first | (simp; done) | (simp; omega), (HeldW_spec n).2⟩
  · skip
    have t0f : decide (1 ≤ x.d) = false := decide_eq_false c0
    have HR := Lib.hid (show decide x.Ok = false by rw [decide_eq_false_iff_not, HOK.out]; omega)
    go_enter Tryz.func131, Tryz.ntmps131
    go_wp2_with fail
    refine wp_region_class (TimeAt w w.heap.size 147 x) (by kernel_rfl) (by kernel_rfl) HTD.out ?_
    repeat (go_big_quiet_step (first | with_reducible exact held_below (fun _ _ => TimeAt.below) (HD.out _) | with_reducible exact held_same (H3.out _) | with_reducible exact held_same (H4.out _) | with_reducible exact held_same (H5.out _)))
    refine wpQuiet_nil ?_
    rintro _ ⟨n, rfl⟩
    go_wp2_with fail
    go_ret
    rw [HR.out]
    exact ⟨by simp, (HeldW_spec n).2⟩
end Go.Proofs.YtjcbjocgachpjaaGreatDoor
/- Contracts of dos.Split, dos.Right and dos.Of. -/
set_option linter.unusedVariables false
namespace Go.Proofs.YtjcbjocgachpjaaGreatDoor
open Go.RowKit
open Sw
theorem dosRight_any (w : World) (t : Int) (h0 : 0 ≤ t) (h1 : t < 4294967296) :
    Calls Tryz.prog 90 #[.int .u32 t] w fun e w' => e = .returned (.bool (decide (splitD t).Ok)) ∧ Below w.heap.size w w' := by
  have H1 := Lib.hid (fun W => split_any W t h0 h1)
  have H2 := Lib.hid (fun W => dosRt_any W (splitD t) (splitD_in t h0 h1))
  generalize splitD t = x at *
  go_enter Tryz.func90, Tryz.ntmps90
  go_wp2_with (first | (go_at_call 130; refine (H1.out _).mono ?_; rintro e w1 ⟨rfl, hb1⟩) | (go_at_call 131; refine (H2.out _).mono ?_; rintro e w2 ⟨rfl, hb2⟩))
  go_ret
  exact ⟨rfl, hb1.trans (hb2.mono hb1.size)⟩
theorem size_of_alloc {w w1 : World} {o : Obj} (h : Below (w.alloc o).heap.size (w.alloc o) w1) : w.heap.size < w1.heap.size := by
  have := h.size
  rw [World.size_alloc] at this
  omega
theorem timeInfo : (Tryz.prog.info? 147).map (·.size) = some 6 := by kernel_rfl
/-- the parts, or none -/
def zeroD : Dt := ⟨0, 0, 0, 0, 0, 0⟩
def splitOr (t : Int) : Dt := if (splitD t).Ok then splitD t else zeroD
theorem dosSplit_any (w : World) (t : Int) (h0 : 0 ≤ t) (h1 : t < 4294967296) :
    Calls Tryz.prog 91 #[.int .u32 t] w fun e w' => e = .returned (.tuple #[.agg (Dt.v (splitOr t)), .bool (decide (splitD t).Ok)]) ∧ Below w.heap.size w w' := by
  have H1 := Lib.hid (fun W => split_any W t h0 h1)
  have h2 := fun W => dosRt_any W (splitD t) (splitD_in t h0 h1)
  unfold splitOr
  generalize splitD t = x at *
  by_cases hok : x.Ok
  · rw [if_pos hok, decide_eq_true hok]
    rw [decide_eq_true hok] at h2
    have H2 := Lib.hid h2; clear h2
    unfold Dt.v at H1 H2 ⊢
    go_enter Tryz.func91, Tryz.ntmps91
    go_wp2_with (go_at_call 130; refine (H1.out _).mono ?_; rintro e w1 ⟨rfl, hb1⟩)
    have hsz : w.heap.size < w1.heap.size := size_of_alloc hb1
    refine (H2.out _).mono ?_
    rintro e w2 ⟨rfl, hb2⟩
    have hX : Blk w2 w1.heap.size 147 #[Value.int IntKind.i64 x.y, Value.int IntKind.i64 x.m, Value.int IntKind.i64 x.d, Value.int IntKind.i64 x.h, Value.int IntKind.i64 x.mi, Value.int IntKind.i64 x.s] := Blk.below (Blk.new w1 147 #[Value.int IntKind.i64 x.y, Value.int IntKind.i64 x.m, Value.int IntKind.i64 x.d, Value.int IntKind.i64 x.h, Value.int IntKind.i64 x.mi, Value.int IntKind.i64 x.s]) hb2 (by rw [World.size_alloc]; omega)
    have hG : Blk w2 w.heap.size 147 #[Value.int IntKind.i64 0, Value.int IntKind.i64 0, Value.int IntKind.i64 0, Value.int IntKind.i64 0, Value.int IntKind.i64 0, Value.int IntKind.i64 0] := Blk.below (Blk.alloc (Blk.below (Blk.new w 147 #[Value.int IntKind.i64 0, Value.int IntKind.i64 0, Value.int IntKind.i64 0, Value.int IntKind.i64 0, Value.int IntKind.i64 0, Value.int IntKind.i64 0]) hb1 (by rw [World.size_alloc]; omega)) _) hb2 (by rw [World.size_alloc]; omega)
    have h1 : Below w.heap.size w w1 := ((Below.refl w.heap.size w).alloc (Nat.le_refl _) (Obj.cells #[Value.int IntKind.i64 0, Value.int IntKind.i64 0, Value.int IntKind.i64 0, Value.int IntKind.i64 0, Value.int IntKind.i64 0, Value.int IntKind.i64 0] 147)).trans (hb1.mono (by simp))
    have h2 := (h1.alloc h1.size (Obj.cells #[Value.int IntKind.i64 x.y, Value.int IntKind.i64 x.m, Value.int IntKind.i64 x.d, Value.int IntKind.i64 x.h, Value.int IntKind.i64 x.mi, Value.int IntKind.i64 x.s] 147)).trans (hb2.mono (by rw [World.size_alloc]; omega))
    have c0 := hX.cell 0; have c1 := hX.cell 1; have c2 := hX.cell 2; have c3 := hX.cell 3; have c4 := hX.cell 4; have c5 := hX.cell 5; have g0 := hG.cell 0; have f0 := hG.frozen 0; have g1 := hG.cell 1; have f1 := hG.frozen 1; have g2 := hG.cell 2; have f2 := hG.frozen 2; have g3 := hG.cell 3; have f3 := hG.frozen 3; have g4 := hG.cell 4; have f4 := hG.frozen 4; have g5 := hG.cell 5; have f5 := hG.frozen 5
    have HG := Lib.hid hG; clear hG hX hb1 hb2
    simp at c0 c1 c2 c3 c4 c5 g0 g1 g2 g3 g4 g5
    have hne : ¬ w1.heap.size = w.heap.size := by omega
    have hne2 : ¬ w.heap.size = w1.heap.size := by omega
    go_wp2_with fail
    refine bodyPost_ret (res_blk_tmp rfl _ _ w.heap.size 147 #[Value.int IntKind.i64 x.y, Value.int IntKind.i64 x.m, Value.int IntKind.i64 x.d, Value.int IntKind.i64 x.h, Value.int IntKind.i64 x.mi, Value.int IntKind.i64 x.s] _ rfl (((((((HG.out).put 0 (Value.int IntKind.i64 x.y)).put 1 (Value.int IntKind.i64 x.m)).put 2 (Value.int IntKind.i64 x.d)).put 3 (Value.int IntKind.i64 x.h)).put 4 (Value.int IntKind.i64 x.mi)).put 5 (Value.int IntKind.i64 x.s)) Tryz.underlying147 rfl timeInfo) rfl ⟨rfl, ((((((h2).setCell (Nat.le_refl _) _).setCell (Nat.le_refl _) _).setCell (Nat.le_refl _) _).setCell (Nat.le_refl _) _).setCell (Nat.le_refl _) _).setCell (Nat.le_refl _) _⟩
  · rw [if_neg hok, decide_eq_false hok]
    rw [decide_eq_false hok] at h2
    have H2 := Lib.hid h2; clear h2
    unfold zeroD
    unfold Dt.v at H1 H2 ⊢
    go_enter Tryz.func91, Tryz.ntmps91
    go_wp2_with (go_at_call 130; refine (H1.out _).mono ?_; rintro e w1 ⟨rfl, hb1⟩)
    have hsz : w.heap.size < w1.heap.size := size_of_alloc hb1
    refine (H2.out _).mono ?_
    rintro e w2 ⟨rfl, hb2⟩
    have hX : Blk w2 w1.heap.size 147 #[Value.int IntKind.i64 x.y, Value.int IntKind.i64 x.m, Value.int IntKind.i64 x.d, Value.int IntKind.i64 x.h, Value.int IntKind.i64 x.mi, Value.int IntKind.i64 x.s] := Blk.below (Blk.new w1 147 #[Value.int IntKind.i64 x.y, Value.int IntKind.i64 x.m, Value.int IntKind.i64 x.d, Value.int IntKind.i64 x.h, Value.int IntKind.i64 x.mi, Value.int IntKind.i64 x.s]) hb2 (by rw [World.size_alloc]; omega)
    have hG : Blk w2 w.heap.size 147 #[Value.int IntKind.i64 0, Value.int IntKind.i64 0, Value.int IntKind.i64 0, Value.int IntKind.i64 0, Value.int IntKind.i64 0, Value.int IntKind.i64 0] := Blk.below (Blk.alloc (Blk.below (Blk.new w 147 #[Value.int IntKind.i64 0, Value.int IntKind.i64 0, Value.int IntKind.i64 0, Value.int IntKind.i64 0, Value.int IntKind.i64 0, Value.int IntKind.i64 0]) hb1 (by rw [World.size_alloc]; omega)) _) hb2 (by rw [World.size_alloc]; omega)
    have h1 : Below w.heap.size w w1 := ((Below.refl w.heap.size w).alloc (Nat.le_refl _) (Obj.cells #[Value.int IntKind.i64 0, Value.int IntKind.i64 0, Value.int IntKind.i64 0, Value.int IntKind.i64 0, Value.int IntKind.i64 0, Value.int IntKind.i64 0] 147)).trans (hb1.mono (by simp))
    have h2 := (h1.alloc h1.size (Obj.cells #[Value.int IntKind.i64 x.y, Value.int IntKind.i64 x.m, Value.int IntKind.i64 x.d, Value.int IntKind.i64 x.h, Value.int IntKind.i64 x.mi, Value.int IntKind.i64 x.s] 147)).trans (hb2.mono (by rw [World.size_alloc]; omega))
    have c0 := hX.cell 0; have c1 := hX.cell 1; have c2 := hX.cell 2; have c3 := hX.cell 3; have c4 := hX.cell 4; have c5 := hX.cell 5; have g0 := hG.cell 0; have f0 := hG.frozen 0; have g1 := hG.cell 1; have f1 := hG.frozen 1; have g2 := hG.cell 2; have f2 := hG.frozen 2; have g3 := hG.cell 3; have f3 := hG.frozen 3; have g4 := hG.cell 4; have f4 := hG.frozen 4; have g5 := hG.cell 5; have f5 := hG.frozen 5
    have HG := Lib.hid hG; clear hG hX hb1 hb2
    simp at c0 c1 c2 c3 c4 c5 g0 g1 g2 g3 g4 g5
    have hne : ¬ w1.heap.size = w.heap.size := by omega
    have hne2 : ¬ w.heap.size = w1.heap.size := by omega
    go_wp2_with fail
    refine bodyPost_ret (res_blk_tmp rfl _ _ w.heap.size 147 #[Value.int IntKind.i64 0, Value.int IntKind.i64 0, Value.int IntKind.i64 0, Value.int IntKind.i64 0, Value.int IntKind.i64 0, Value.int IntKind.i64 0] _ rfl (((((((HG.out).put 0 (Value.int IntKind.i64 0)).put 1 (Value.int IntKind.i64 0)).put 2 (Value.int IntKind.i64 0)).put 3 (Value.int IntKind.i64 0)).put 4 (Value.int IntKind.i64 0)).put 5 (Value.int IntKind.i64 0)) Tryz.underlying147 rfl timeInfo) rfl ⟨rfl, ((((((h2).setCell (Nat.le_refl _) _).setCell (Nat.le_refl _) _).setCell (Nat.le_refl _) _).setCell (Nat.le_refl _) _).setCell (Nat.le_refl _) _).setCell (Nat.le_refl _) _⟩
theorem or_step (i : Nat) (X c : Int) (hX : 0 ≤ X) (hc : 0 ≤ c) (hi : c < ((2 ^ i : Nat) : Int)) (hlt : ((2 ^ i : Nat) : Int) * X + c < 4294967296) : bits .or .u32 (((2 ^ i : Nat) : Int) * X) c = ((2 ^ i : Nat) : Int) * X + c := by
  obtain ⟨X, rfl⟩ := Int.eq_ofNat_of_zero_le hX
  obtain ⟨c, rfl⟩ := Int.eq_ofNat_of_zero_le hc
  have hc' : c < 2 ^ i := by omega
  have hs : 2 ^ i * X + c < 4294967296 := by
    have e : ((2 ^ i * X + c : Nat) : Int) = ((2 ^ i : Nat) : Int) * (X : Int) + (c : Int) := by rw [Int.natCast_add, Int.natCast_mul]
    rw [← e] at hlt
    omega
  have h := u32_or_nat (2 ^ i * X) c (by omega) (by omega)
  rw [← Nat.two_pow_add_eq_or_of_lt hc' X] at h
  rw [Int.natCast_add, Int.natCast_mul] at h
  exact h
theorem or_add (i : Nat) (K X Y c : Int) (hK : K = ((2 ^ i : Nat) : Int)) (hY : Y = X * K) (hX : 0 ≤ X) (hc : 0 ≤ c) (hi : c < K) (hlt : Y + c < 4294967296) : bits .or .u32 Y c = Y + c := by
  rw [hY, Int.mul_comm X K] at hlt ⊢
  rw [hK] at hi hlt ⊢
  exact or_step i X c hX hc hi hlt
theorem dosOf_bad (w : World) (x : Dt) (hx : Dt.In x) (hok : ¬ x.Ok) :
    Calls Tryz.prog 161 #[.agg (Dt.v x)] w fun e w' => e = .returned (.tuple #[.int .u32 0, .bool false]) ∧ Below w.heap.size w w' := by
  have h2 := fun W => dosRt_any W x hx
  rw [decide_eq_false hok] at h2
  have H2 := Lib.hid h2; clear h2
  unfold Dt.v at H2 ⊢
  go_enter Tryz.func161, Tryz.ntmps161
  go_wp2_with (go_at_call 131; refine (H2.out _).mono ?_; rintro e w2 ⟨rfl, hb2⟩)
  go_ret2
  exact ⟨rfl, ((Below.refl w.heap.size w).alloc (Nat.le_refl _) _).trans (hb2.mono (by simp))⟩
theorem dosOf_any (w : World) (x : Dt) (hx : Dt.In x) (hok : x.Ok) :
    Calls Tryz.prog 161 #[.agg (Dt.v x)] w fun e w' => e = .returned (.tuple #[.int .u32 (ofD x), .bool true]) ∧ Below w.heap.size w w' := by
  have h2 := fun W => dosRt_any W x hx
  rw [decide_eq_true hok] at h2
  have H2 := Lib.hid h2; clear h2
  have hy := hok.year
  have hl := ofD_lt hok
  have ho : ofD x = (((((x.y - 1980) * 16 + x.m) * 32 + x.d) * 32 + x.h) * 64 + x.mi) * 32 + x.s / 2 := rfl
  have hok2 := hok
  unfold Dt.Ok at hok2
  unfold Dt.v at H2 ⊢
  go_enter Tryz.func161, Tryz.ntmps161
  go_wp2_with fail
  refine (H2.out _).mono ?_
  rintro e w2 ⟨rfl, hb2⟩
  have hX : Blk w2 w.heap.size 147 #[.int .i64 x.y, .int .i64 x.m, .int .i64 x.d, .int .i64 x.h, .int .i64 x.mi, .int .i64 x.s] := Blk.below (Blk.new w _ _) hb2 (by rw [World.size_alloc]; omega)
  have h1 := ((Below.refl w.heap.size w).alloc (Nat.le_refl _) (Obj.cells #[.int .i64 x.y, .int .i64 x.m, .int .i64 x.d, .int .i64 x.h, .int .i64 x.mi, .int .i64 x.s] 147)).trans (hb2.mono (by simp))
  have c0 := hX.cell 0
  have c1 := hX.cell 1
  have c2 := hX.cell 2
  have c3 := hX.cell 3
  have c4 := hX.cell 4
  have c5 := hX.cell 5
  simp at c0 c1 c2 c3 c4 c5
  have HO := Lib.hid ho; clear ho
  clear hX hb2
  go_wp2_with fail
  go_ret2
  refine ⟨?_, h1⟩
  have e1 : bits BinOp.or IntKind.u32 ((x.y - 1980) * 33554432) (x.m * 2097152) = (x.y - 1980) * 33554432 + x.m * 2097152 := or_add 25 33554432 (x.y - 1980) _ _ rfl rfl (by omega) (by omega) (by omega) (by omega)
  have e2 := or_add 21 2097152 ((x.y - 1980) * 16 + x.m) ((x.y - 1980) * 33554432 + x.m * 2097152) (x.d * 65536) rfl (by omega) (by omega) (by omega) (by omega) (by omega)
  have e3 := or_add 16 65536 (((x.y - 1980) * 16 + x.m) * 32 + x.d) ((x.y - 1980) * 33554432 + x.m * 2097152 + x.d * 65536) (x.h * 2048) rfl (by omega) (by omega) (by omega) (by omega) (by omega)
  have e4 := or_add 11 2048 ((((x.y - 1980) * 16 + x.m) * 32 + x.d) * 32 + x.h) ((x.y - 1980) * 33554432 + x.m * 2097152 + x.d * 65536 + x.h * 2048) (x.mi * 32) rfl (by omega) (by omega) (by omega) (by omega) (by omega)
  have e5 := or_add 5 32 (((((x.y - 1980) * 16 + x.m) * 32 + x.d) * 32 + x.h) * 64 + x.mi) ((x.y - 1980) * 33554432 + x.m * 2097152 + x.d * 65536 + x.h * 2048 + x.mi * 32) (x.s / 2) rfl (by omega) (by omega) (by omega) (by omega) (by omega)
  rw [e1, e2, e3, e4, e5]
  have hof : ofD x = (x.y - 1980) * 33554432 + x.m * 2097152 + x.d * 65536 + x.h * 2048 + x.mi * 32 + x.s / 2 := by rw [HO.out]; omega
  rw [hof]
  rfl
end Go.Proofs.YtjcbjocgachpjaaGreatDoor
/- A tree as a row of entries that rises: plain. -/
set_option linter.unusedVariables false
set_option linter.unusedSimpArgs false
namespace Sw
open Go.Proofs.YtjcbjocgachpjaaGreatDoor (partsS)
abbrev NE := ByteArray × Nd
/-- no node -/
def ndZ : Nd := ⟨0, 0, 0, ⟨#[]⟩⟩
/-- may a node be? -/
def nodeR (n : Nd) : Int :=
  if ¬ n.kind = 0 ∧ ¬ n.kind = 1 ∧ ¬ n.kind = 2 then 8
  else if (n.kind = 0 ∧ ¬ (n.mode = 0 ∧ n.time = 0 ∧ n.data.data.toList = [])) ∨ (n.kind = 2 ∧ (¬ n.data.data.toList = [] ∨ ¬ n.time = 0)) then 1
  else if ¬ (0 ≤ n.mode ∧ n.mode ≤ 511) then 12
  else if n.kind = 1 ∧ ¬ (splitD n.time).Ok then 13
  else if (65000 : Int) < n.data.size then 4
  else 0
def getT (xs : List NE) (p : ByteArray) : Nd := (getN ordS p xs).getD ndZ
/-- is something under a path? -/
def holdsT (xs : List NE) (p : ByteArray) : Bool := match (xs.drop (lbN ordS p xs)).find? (fun e => !decide (e.1 = p)) with
  | none => false
  | some e => inS (upsS e.1) p
def parentT (xs : List NE) (p : ByteArray) : Int :=
  if parentS p = ⟨#[]⟩ then 0 else if (getT xs (parentS p)).kind = 0 then 7 else if (getT xs (parentS p)).kind = 2 then 0 else 8
def mayT (xs : List NE) (p : ByteArray) (n : Nd) : Int :=
  if rightL p.data.toList = false then 5
  else if n.kind = 0 then 1
  else if ¬ nodeR n = 0 then nodeR n
  else if ¬ parentT xs p = 0 then parentT xs p
  else if ¬ n.kind = 2 ∧ holdsT xs p = true then 8
  else if (getT xs p).kind = 0 ∧ 500 ≤ xs.length then 4
  else 0
def putT (xs : List NE) (p : ByteArray) (n : Nd) : List NE := if mayT xs p n = 0 then putN ordS p n xs else xs
def whyDrop (xs : List NE) (p : ByteArray) : Int := if (getT xs p).kind = 0 then 7 else if holdsT xs p = true then 8 else 0
end Sw
/- Plain laws of SortedAlike: rows that rise are told by their members; what is put in any order stands alike. -/
set_option linter.unusedVariables false
set_option linter.unusedSimpArgs false
namespace Sw
section
variable {κ ν : Type} {c : κ → κ → Int}
theorem up_ext (hO : Ord3 c) : ∀ (l m : List (κ × ν)), Up c l → Up c m → (∀ x, x ∈ l ↔ x ∈ m) → l = m
  | [], m, _, _, h => by
    cases m with
    | nil => rfl
    | cons e m => exact absurd ((h e).2 (List.mem_cons_self ..)) (by simp)
  | a :: l, [], _, _, h => absurd ((h a).1 (List.mem_cons_self ..)) (by simp)
  | a :: l, b :: m, hl, hm, h => by
    have hab : a = b := by
      have h1 := (h a).1 (List.mem_cons_self ..)
      have h2 := (h b).2 (List.mem_cons_self ..)
      rw [List.mem_cons] at h1 h2
      rcases h1 with h1 | h1
      · exact h1
      · rcases h2 with h2 | h2
        · exact h2.symm
        · have e1 := hm.head a h1
          have e2 := hl.head b h2
          have := hO.neg a.1 b.1
          omega
    subst hab
    congr 1
    refine up_ext hO l m hl.tail hm.tail fun x => ?_
    have hx := h x
    rw [List.mem_cons, List.mem_cons] at hx
    constructor
    · intro hm'
      rcases hx.1 (.inr hm') with e | e
      · subst e
        have := hl.head _ hm'
        have := hO.self x.1
        omega
      · exact e
    · intro hm'
      rcases hx.2 (.inr hm') with e | e
      · subst e
        have := hm.head _ hm'
        have := hO.self x.1
        omega
      · exact e
/-- all of a row, put one behind another -/
def putL (c : κ → κ → Int) (l : List (κ × ν)) : List (κ × ν) := l.foldl (fun m e => putN c e.1 e.2 m) []
theorem putL_snoc (l : List (κ × ν)) (e : κ × ν) : putL c (l ++ [e]) = putN c e.1 e.2 (putL c l) := by
  unfold putL
  rw [List.foldl_append]
  rfl
/-- keys that differ -/
def Unlike (l : List (κ × ν)) : Prop := l.Pairwise fun a b => a.1 ≠ b.1
theorem put_new (hO : Ord3 c) (k : κ) (v : ν) (l : List (κ × ν)) (hu : Up c l) (hk : ∀ x ∈ l, x.1 ≠ k) : (∀ x, x ∈ putN c k v l ↔ x = (k, v) ∨ x ∈ l) ∧ (putN c k v l).length = l.length + 1 := by
  have hin : inN c k l = false := by
    cases h : inN c k l with
    | false => rfl
    | true =>
      exfalso
      have hlt := inN_lt hO h
      rw [inN_at hO hlt, decide_eq_true_eq] at h
      exact hk _ (List.getElem_mem hlt) (hO.zero _ _ h)
  constructor
  · intro x
    rw [put_miss k v l hin]
    have ht : x ∈ l ↔ x ∈ l.take (lbN c k l) ∨ x ∈ l.drop (lbN c k l) := by
      rw [← List.mem_append, List.take_append_drop]
    rw [ht, List.mem_append, List.mem_cons]
    constructor
    · rintro (h | h | h)
      · exact .inr (.inl h)
      · exact .inl h
      · exact .inr (.inr h)
    · rintro (h | h | h)
      · exact .inr (.inl h)
      · exact .inl h
      · exact .inr (.inr h)
  · rw [put_len, hin]; rfl
/-- what is put of unlike keys: it rises, and has these members -/
theorem putL_all (hO : Ord3 c) : ∀ n (l : List (κ × ν)), l.length = n → Unlike l → Up c (putL c l) ∧ (∀ x, x ∈ putL c l ↔ x ∈ l) ∧ (putL c l).length = l.length
  | 0, l, hl, _ => by
    obtain rfl : l = [] := List.length_eq_zero_iff.1 hl
    exact ⟨List.Pairwise.nil, fun x => Iff.rfl, rfl⟩
  | n + 1, l, hl, hu => by
    have hne : l ≠ [] := by intro e; subst e; simp at hl
    obtain ⟨r, e, rfl⟩ : ∃ r e, l = r ++ [e] := ⟨l.dropLast, l.getLast hne, (List.dropLast_concat_getLast hne).symm⟩
    unfold Unlike at hu
    rw [List.pairwise_append] at hu
    obtain ⟨h1, h2, h3⟩ := putL_all hO n r (by simpa using hl) hu.1
    rw [putL_snoc]
    have hk : ∀ x ∈ putL c r, x.1 ≠ e.1 := fun x hx => hu.2.2 x ((h2 x).1 hx) e (List.mem_singleton.2 rfl)
    obtain ⟨h4, h5⟩ := put_new hO e.1 e.2 _ h1 hk
    refine ⟨put_up hO _ _ _ h1, fun x => ?_, ?_⟩
    · rw [h4, h2, List.mem_append, List.mem_singleton]
      exact Or.comm
    · rw [h5, h3]; simp
theorem putL_le : ∀ (l m : List (κ × ν)), (l.foldl (fun m e => putN c e.1 e.2 m) m).length ≤ m.length + l.length
  | [], m => by simp
  | e :: l, m => by
    rw [List.foldl_cons]
    have h1 := putL_le l (putN c e.1 e.2 m)
    have h2 := put_len (c := c) e.1 e.2 m
    have h3 : (putN c e.1 e.2 m).length ≤ m.length + 1 := by rw [h2]; split <;> omega
    simp only [List.length_cons]
    omega
end
end Sw
