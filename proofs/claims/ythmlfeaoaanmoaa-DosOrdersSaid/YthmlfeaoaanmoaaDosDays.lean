/- Contracts of the days of a month, and of whether parts may be. -/
import Derived.Test.YthmlfeaoaanmoaaRows
import Derived.Test.YthmlfeaoaanmoaaKit
import Derived.Test.YthmlfeaoaanmoaaDosPlain
set_option linter.unusedVariables false
namespace Go.Proofs.Ythmlfeaoaanmoaa
open Go.RowKit
open Sw
theorem leap_any (w : World) (y : Int) (h0 : -9223372036854775808 ≤ y) (h1 : y ≤ 9223372036854775807) :
    Calls Try.prog 55 #[.int .i64 y] w fun e w' => e = .returned (.bool (leapI y)) ∧ w = w' := by
  have e4 : (y.tmod 4 == 0) = decide (y % 4 = 0) := by
    rw [Bool.eq_iff_iff, beq_iff_eq, decide_eq_true_iff, ← Int.dvd_iff_tmod_eq_zero, ← Int.dvd_iff_emod_eq_zero]
  by_cases h4 : y % 4 = 0
  · have ht : (y.tmod 4 == 0) = true := by rw [e4]; simpa using h4
    by_cases h5 : y = 2100
    · have hl : leapI y = false := by unfold leapI; simp [h5]
      have HL := Lib.hid hl
      clear hl e4
      go_enter Try.func55, Try.ntmps55
      go_wp2_with fail
      go_ret
      rw [HL.out]; exact ⟨by simp, rfl⟩
    · have hl : leapI y = true := by unfold leapI; simp [h4, h5]
      have hn : (y != 2100) = true := by simp [h5]
      have HL := Lib.hid hl
      clear hl e4
      go_enter Try.func55, Try.ntmps55
      go_wp2_with fail
      go_ret
      rw [HL.out]; exact ⟨by simp, rfl⟩
  · have ht : (y.tmod 4 == 0) = false := by rw [e4]; simpa using h4
    have hl : leapI y = false := by unfold leapI; simp [h4]
    have HL := Lib.hid hl
    clear hl e4
    go_enter Try.func55, Try.ntmps55
    go_wp2_with fail
    go_ret
    rw [HL.out]; exact ⟨by simp, rfl⟩
set_option maxHeartbeats 1000000 in
theorem days_any (w : World) (y m : Int) (h0 : -9223372036854775808 ≤ y) (h1 : y ≤ 9223372036854775807) (m0 : -9223372036854775808 ≤ m) (m1 : m ≤ 9223372036854775807) :
    Calls Try.prog 21 #[.int .i64 y, .int .i64 m] w fun e w' => e = .returned (.int .i64 (daysI y m)) ∧ Below w.heap.size w w' := by
  by_cases hbad : y < 1980 ∨ 2107 < y ∨ m < 1 ∨ 12 < m
  · have hd : daysI y m = 0 := by unfold daysI; rw [if_pos hbad]
    rw [hd]
    rcases Classical.em (y < 1980) with h | h
    · go_enter Try.func21, Try.ntmps21
      go_wp2_with fail
      go_ret
      exact ⟨rfl, Below.refl _ _⟩
    rcases Classical.em (2107 < y) with h2 | h2
    · go_enter Try.func21, Try.ntmps21
      go_wp2_with fail
      go_ret
      exact ⟨rfl, Below.refl _ _⟩
    rcases Classical.em (m < 1) with h3 | h3
    · go_enter Try.func21, Try.ntmps21
      go_wp2_with fail
      go_ret
      exact ⟨rfl, Below.refl _ _⟩
    have h4 : 12 < m := by omega
    go_enter Try.func21, Try.ntmps21
    go_wp2_with fail
    go_ret
    exact ⟨rfl, Below.refl _ _⟩
  · have hy0 : ¬ y < 1980 := by omega
    have hy1 : ¬ 2107 < y := by omega
    have HD := Lib.hid (show daysI y m = _ by unfold daysI; rw [if_neg hbad])
    have L := Lib.hid (fun W => leap_any W y h0 h1)
    have hm : m = 1 ∨ m = 2 ∨ m = 3 ∨ m = 4 ∨ m = 5 ∨ m = 6 ∨ m = 7 ∨ m = 8 ∨ m = 9 ∨ m = 10 ∨ m = 11 ∨ m = 12 := by omega
    clear hbad m0 m1 h0 h1
    rcases hm with rfl | rfl | rfl | rfl | rfl | rfl | rfl | rfl | rfl | rfl | rfl | rfl
    case inr.inl =>
      rcases hl : leapI y with _ | _
      all_goals
        rw [hl] at HD L
        have hd := HD.out
        simp at hd
        rw [hd]
        clear hd HD
        go_enter Try.func21, Try.ntmps21
        go_wp2_with (go_at_call 55; refine (L.out _).mono ?_; rintro e w' ⟨rfl, rfl⟩)
        go_ret
        exact ⟨rfl, (Below.refl _ _).alloc (Nat.le_refl _) _⟩
    all_goals
      have hd := HD.out
      simp at hd
      rw [hd]
      clear hd HD L
      go_enter Try.func21, Try.ntmps21
      go_wp2_with fail
      go_ret
      exact ⟨rfl, (Below.refl _ _).alloc (Nat.le_refl _) _⟩
end Go.Proofs.Ythmlfeaoaanmoaa
