/- Contracts of status.Line, and of the reference's May and Line. -/
import Derived.Test.YtpnkgldpmalklaaDoorStLn
set_option linter.unusedVariables false
set_option linter.unusedSimpArgs false
namespace Sw
open Go Go.RowKit
theorem lineS_no {p : ByteArray} {v n : Int} (h : mayR p v n = false) : lineS p v n = ⟨#[]⟩ := lineS_nil.2 h
theorem lineS_three {p : ByteArray} {n : Int} (h : mayR p 3 n = true) : lineS p 3 n = clashS p n := by
  have h2 := h
  unfold mayR at h2
  rw [Bool.and_eq_true, if_pos rfl, decide_eq_true_eq] at h2
  unfold lineS clashS
  rw [if_pos h, if_pos rfl, if_pos ⟨by omega, h2.1⟩]
theorem lineS_sgn {p : ByteArray} {v n : Int} (h : mayR p v n = true) (h3 : v ≠ 3) : lineS p v n = sgnS v ++ p := by
  unfold lineS
  rw [if_pos h, if_neg h3]
theorem may_in {p : ByteArray} {v n : Int} (h : mayR p v n = true) : (v = 3 ∧ (n = 1 ∨ n = 2 ∨ n = 3)) ∨ (v = 0 ∧ n = 0) ∨ (v = 1 ∧ n = 0) ∨ (v = 2 ∧ n = 0) := by
  unfold mayR at h
  rw [Bool.and_eq_true] at h
  by_cases h3 : v = 3
  · rw [if_pos h3, decide_eq_true_eq] at h
    omega
  · rw [if_neg h3, decide_eq_true_eq] at h
    omega
theorem lineS_size (p : ByteArray) (v n : Int) : (lineS p v n).size ≤ p.size + 8 := by
  cases h : mayR p v n with
  | false => rw [lineS_no h]; exact Nat.zero_le _
  | true =>
    rcases may_in h with ⟨rfl, _⟩ | ⟨rfl, _⟩ | ⟨rfl, _⟩ | ⟨rfl, _⟩
    · unfold lineS
      rw [if_pos h, if_pos rfl]
      simp only [ByteArray.size_append]
      have := clsS_size n
      have : (⟨#[33, 32]⟩ : ByteArray).size = 2 := rfl
      have : (⟨#[32]⟩ : ByteArray).size = 1 := rfl
      omega
    all_goals
      rw [lineS_sgn h (by decide), ByteArray.size_append, sgn_size]
      omega
end Sw
namespace Go.Proofs.YtpnkgldpmalklaaDoor
open Go Go.RowKit
open Sw
set_option maxRecDepth 100000 in
set_option maxHeartbeats 4000000 in
theorem stLine_any (w : World) (p : ByteArray) (v n : Int) (hp : p.size ≤ 100000) :
    Calls Tryd.prog 8 #[.agg (rowC p v n)] w fun e w' => e = .returned (.string (lineS p v n)) ∧ Below w.heap.size w w' := by
  have HM := Lib.hid (fun W => stMay_any W p v n hp)
  have HC := Lib.hid (fun W => stClash_any W p n hp)
  have hB := Blk.new w 28 (rowC p v n)
  have hb1 := (Below.refl w.heap.size w).alloc (Nat.le_refl _) (.cells (rowC p v n) 28)
  have k0 := hB.cell 0
  have k1 := hB.cell 1
  have k2 := hB.cell 2
  simp only [rowC, List.getElem?_toArray, List.getElem?_cons_zero, List.getElem?_cons_succ] at k0 k1 k2
  have HB := Lib.hid hB; clear hB
  have HB1 := Lib.hid hb1; clear hb1
  cases hm : mayR p v n with
  | false =>
    rw [hm] at HM
    rw [lineS_no hm]
    clear hm
    go_enter Tryd.func8, Tryd.ntmps8
    go_wp2_with fail
    refine (HM.out _).mono ?_
    rintro e w2 ⟨rfl, hb2⟩
    have hb3 := HB1.out.trans (hb2.mono HB1.out.size)
    go_wp2_with fail
    go_ret
    exact ⟨rfl, hb3⟩
  | true =>
    rw [hm] at HM
    rcases may_in hm with ⟨rfl, _⟩ | ⟨rfl, rfl⟩ | ⟨rfl, rfl⟩ | ⟨rfl, rfl⟩
    · rw [lineS_three hm]
      clear hm
      go_enter Tryd.func8, Tryd.ntmps8
      go_wp2_with fail
      refine (HM.out _).mono ?_
      rintro e w2 ⟨rfl, hb2⟩
      have hB2 := HB.out.below hb2 HB.out.lt
      have hb3 := HB1.out.trans (hb2.mono HB1.out.size)
      have k0 := hB2.cell 0
      have k1 := hB2.cell 1
      have k2 := hB2.cell 2
      simp at k0 k1 k2
      go_wp2_with fail
      refine (HC.out _).mono ?_
      rintro e w4 ⟨rfl, hb4⟩
      have hb5 := hb3.trans (hb4.mono hb3.size)
      go_wp2_with fail
      go_ret
      exact ⟨rfl, hb5⟩
    all_goals
      rw [lineS_sgn hm (by decide)]
      clear hm
      have q1 : ¬ 9223372036854775807 < 2 + p.size := by omega
      have i0 : ∀ w, (Instr.index 46 (.agg #[.string ⟨#[61, 32]⟩, .string ⟨#[60, 32]⟩, .string ⟨#[62, 32]⟩]) (.int .i64 0)).run Tryd.prog w = .ok (.string ⟨#[61, 32]⟩) w := fun _ => by kernel_rfl
      have i1 : ∀ w, (Instr.index 46 (.agg #[.string ⟨#[61, 32]⟩, .string ⟨#[60, 32]⟩, .string ⟨#[62, 32]⟩]) (.int .i64 1)).run Tryd.prog w = .ok (.string ⟨#[60, 32]⟩) w := fun _ => by kernel_rfl
      have i2 : ∀ w, (Instr.index 46 (.agg #[.string ⟨#[61, 32]⟩, .string ⟨#[60, 32]⟩, .string ⟨#[62, 32]⟩]) (.int .i64 2)).run Tryd.prog w = .ok (.string ⟨#[62, 32]⟩) w := fun _ => by kernel_rfl
      go_enter Tryd.func8, Tryd.ntmps8
      go_wp2_with fail
      refine (HM.out _).mono ?_
      rintro e w2 ⟨rfl, hb2⟩
      have hB2 := HB.out.below hb2 HB.out.lt
      have hb3 := HB1.out.trans (hb2.mono HB1.out.size)
      have k0 := hB2.cell 0
      have k1 := hB2.cell 1
      have k2 := hB2.cell 2
      simp at k0 k1 k2
      go_wp2_with fail
      have l0 : ∀ m, (w2.drewN m).cell? ⟨w.heap.size, 0, none⟩ = some (.string p) := fun m => k0
      have l1 : ∀ m, (w2.drewN m).cell? ⟨w.heap.size, 1, none⟩ = w2.cell? ⟨w.heap.size, 1, none⟩ := fun m => rfl
      rw [k1] at l1
      go_quiet (fail)
      go_wp2_with fail
      go_ret
      exact ⟨rfl, below_drewN hb3 _⟩
set_option maxRecDepth 100000 in
set_option maxHeartbeats 4000000 in
theorem refMay38_any (w : World) (p : ByteArray) (v n : Int) (hp : p.size ≤ 100000) :
    Calls Tryd.prog 11 #[.agg (rowC p v n)] w fun e w' => e = .returned (.bool (mayR p v n)) ∧ Below w.heap.size w w' := by
  have HR := Lib.hid (fun W => refRight_any W p hp)
  have hB := Blk.new w 23 (rowC p v n)
  have hb1 := (Below.refl w.heap.size w).alloc (Nat.le_refl _) (.cells (rowC p v n) 23)
  have k0 : (w.alloc (.cells (rowC p v n) 23)).cell? ⟨w.heap.size, 0, none⟩ = some (.string p) := hB.cell 0
  have HB := Lib.hid hB; clear hB
  have HB1 := Lib.hid hb1; clear hb1
  have hc := may_cases p v n
  generalize mayR p v n = R at *
  generalize rightL p.data.toList = r at *
  rcases hc with ⟨rfl, rfl⟩ | ⟨rfl, h, rfl⟩ | ⟨rfl, h, rfl⟩ | ⟨rfl, rfl, h, rfl⟩ | ⟨rfl, rfl, h, rfl⟩ | ⟨rfl, rfl, h, h', rfl⟩ | ⟨rfl, h, h', h'', rfl⟩ | ⟨rfl, h, h', rfl, rfl⟩
  case inl =>
    go_enter Tryd.func11, Tryd.ntmps11
    go_wp2_with fail
    refine (HR.out _).mono ?_
    rintro e w2 ⟨rfl, hb2⟩
    have hb3 := HB1.out.trans (hb2.mono HB1.out.size)
    go_wp2_with fail
    go_ret
    exact ⟨rfl, hb3⟩
  all_goals
    try (have g0 : ¬ 0 ≤ v := by omega)
    try (have g2 : ¬ v < 3 := by omega)
    try (have g7 : 0 ≤ v := by omega)
    try (have g3 : (v == 3) = false := by rw [beq_eq_false_iff_ne]; omega)
    try (have g4 : (n == 0) = false := by rw [beq_eq_false_iff_ne]; omega)
    try (have g5 : ¬ 1 ≤ n := by omega)
    try (have g8 : 1 ≤ n := by omega)
    try (have g6 : ¬ n ≤ 3 := by omega)
    try clear h''
    go_enter Tryd.func11, Tryd.ntmps11
    go_wp2_with fail
    refine (HR.out _).mono ?_
    rintro e w2 ⟨rfl, hb2⟩
    have hB2 := HB.out.below hb2 HB.out.lt
    have hb3 := HB1.out.trans (hb2.mono HB1.out.size)
    have k1 := hB2.cell 1
    have k2 := hB2.cell 2
    simp at k1 k2
    go_wp2_with fail
    go_ret
    exact ⟨by first | rfl | (show Ending.returned (Value.bool (decide (n ≤ 3))) = _; rw [decide_eq_false (by omega)]), hb3⟩
set_option maxRecDepth 100000 in
set_option maxHeartbeats 8000000 in
theorem refLine38_any (w : World) (p : ByteArray) (v n : Int) (hp : p.size ≤ 100000) :
    Calls Tryd.prog 5 #[.agg (rowC p v n)] w fun e w' => e = .returned (.string (lineS p v n)) ∧ Below w.heap.size w w' := by
  have HM := Lib.hid (fun W => refMay38_any W p v n hp)
  have hB := Blk.new w 23 (rowC p v n)
  have hb1 := (Below.refl w.heap.size w).alloc (Nat.le_refl _) (.cells (rowC p v n) 23)
  have k0 := hB.cell 0
  have k1 := hB.cell 1
  have k2 := hB.cell 2
  simp only [rowC, List.getElem?_toArray, List.getElem?_cons_zero, List.getElem?_cons_succ] at k0 k1 k2
  have HB := Lib.hid hB; clear hB
  have HB1 := Lib.hid hb1; clear hb1
  cases hm : mayR p v n with
  | false =>
    rw [hm] at HM
    rw [lineS_no hm]
    clear hm
    go_enter Tryd.func5, Tryd.ntmps5
    go_wp2_with fail
    refine (HM.out _).mono ?_
    rintro e w2 ⟨rfl, hb2⟩
    have hb3 := HB1.out.trans (hb2.mono HB1.out.size)
    go_wp2_with fail
    go_ret
    exact ⟨rfl, hb3⟩
  | true =>
    rw [hm] at HM
    have hl : lineS p v n = if v = 3 then (⟨#[33, 32]⟩ ++ clsS n) ++ ⟨#[32]⟩ ++ p else sgnS v ++ p := by unfold lineS; rw [if_pos hm]
    have q1 : ¬ 9223372036854775807 < 2 + p.size := by omega
    have q2 : ¬ 9223372036854775807 < 2 + 4 + 1 + p.size := by omega
    have q3 : ¬ 9223372036854775807 < 2 + 5 + 1 + p.size := by omega
    rw [hl]
    rcases may_in hm with ⟨rfl, rfl | rfl | rfl⟩ | ⟨rfl, rfl⟩ | ⟨rfl, rfl⟩ | ⟨rfl, rfl⟩
    all_goals
      clear hm hl
      go_enter Tryd.func5, Tryd.ntmps5
      go_wp2_with fail
      refine (HM.out _).mono ?_
      rintro e w2 ⟨rfl, hb2⟩
      have hB2 := HB.out.below hb2 HB.out.lt
      have hlt := hB2.lt
      have hb3 := HB1.out.trans (hb2.mono HB1.out.size)
      have k0 := hB2.cell 0
      have k1 := hB2.cell 1
      have k2 := hB2.cell 2
      simp at k0 k1 k2
      go_wp2_with fail
      go_region
      all_goals
        go_wp2_with fail
        go_ret
        exact ⟨rfl, (hb3.drew.alloc hb3.size _)⟩
end Go.Proofs.YtpnkgldpmalklaaDoor
