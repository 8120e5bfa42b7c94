/- Contracts of the functions of status: Class, Clash, may, Line; and of the reference's May and Line. -/
import Derived.Test.YtpnkgldpmalklaaDoorStLnPlain
import Derived.Test.YtpnkgldpmalklaaDoorNameRefC
set_option linter.unusedVariables false
set_option linter.unusedSimpArgs false
namespace Sw
open Go Go.RowKit
theorem clsS_one : clsS 1 = ⟨#[98, 111, 116, 104]⟩ := rfl
theorem clsS_two : clsS 2 = ⟨#[103, 111, 110, 101]⟩ := rfl
theorem clsS_three : clsS 3 = ⟨#[107, 105, 110, 100, 115]⟩ := rfl
theorem clsS_four : clsS 4 = ⟨#[115, 104, 97, 112, 101]⟩ := rfl
theorem clsS_out {n : Int} (h : ¬ (1 ≤ n ∧ n ≤ 4)) : clsS n = ⟨#[]⟩ := by
  unfold clsS
  rw [if_neg (by omega), if_neg (by omega), if_neg (by omega), if_neg (by omega)]
theorem strE (x : ByteArray) : x.toList.isEmpty = decide (x = ⟨#[]⟩) := by
  rw [ByteArray.toList_eq]
  by_cases h : x = ⟨#[]⟩
  · subst h; rfl
  · rw [decide_eq_false h]
    cases hd : x.data.toList with
    | nil => exact absurd (ByteArray.ext (Array.ext' (by simpa using hd))) h
    | cons a b => rfl
theorem clsS_empty (n : Int) : (clsS n).toList.isEmpty = decide (¬ (1 ≤ n ∧ n ≤ 4)) := by
  by_cases h : 1 ≤ n ∧ n ≤ 4
  · rw [decide_eq_false (by simpa using h)]
    rw [strE]
    obtain rfl | rfl | rfl | rfl : n = 1 ∨ n = 2 ∨ n = 3 ∨ n = 4 := by omega
    all_goals rfl
  · rw [decide_eq_true h, clsS_out h, strE]
    rfl
theorem clsS_size (n : Int) : (clsS n).size ≤ 5 := by
  unfold clsS
  split
  · decide
  · split
    · decide
    · split
      · decide
      · split <;> decide
/-- cells of a row, of a clash -/
abbrev rowC (p : ByteArray) (v n : Int) : Array Value := #[.string p, .int .i64 v, .int .i64 n]
abbrev clsC (p : ByteArray) (n : Int) : Array Value := #[.string p, .int .i64 n]
end Sw
namespace Go.Proofs.YtpnkgldpmalklaaDoor
open Go Go.RowKit
open Sw
set_option maxRecDepth 100000 in
set_option maxHeartbeats 2000000 in
theorem stClass_any (w : World) (n : Int) :
    Calls Tryd.prog 10 #[.int .i64 n] w fun e w' => e = .returned (.string (clsS n)) ∧ w = w' := by
  by_cases h1 : 1 ≤ n
  · by_cases h4 : n ≤ 4
    · obtain rfl | rfl | rfl | rfl : n = 1 ∨ n = 2 ∨ n = 3 ∨ n = 4 := by omega
      all_goals
        clear h1 h4
        have i0 : ∀ w, (Instr.index 47 (.agg #[.string ⟨#[98, 111, 116, 104]⟩, .string ⟨#[103, 111, 110, 101]⟩, .string ⟨#[107, 105, 110, 100, 115]⟩, .string ⟨#[115, 104, 97, 112, 101]⟩]) (.int .i64 0)).run Tryd.prog w = .ok (.string ⟨#[98, 111, 116, 104]⟩) w := fun _ => by kernel_rfl
        have i1 : ∀ w, (Instr.index 47 (.agg #[.string ⟨#[98, 111, 116, 104]⟩, .string ⟨#[103, 111, 110, 101]⟩, .string ⟨#[107, 105, 110, 100, 115]⟩, .string ⟨#[115, 104, 97, 112, 101]⟩]) (.int .i64 1)).run Tryd.prog w = .ok (.string ⟨#[103, 111, 110, 101]⟩) w := fun _ => by kernel_rfl
        have i2 : ∀ w, (Instr.index 47 (.agg #[.string ⟨#[98, 111, 116, 104]⟩, .string ⟨#[103, 111, 110, 101]⟩, .string ⟨#[107, 105, 110, 100, 115]⟩, .string ⟨#[115, 104, 97, 112, 101]⟩]) (.int .i64 2)).run Tryd.prog w = .ok (.string ⟨#[107, 105, 110, 100, 115]⟩) w := fun _ => by kernel_rfl
        have i3 : ∀ w, (Instr.index 47 (.agg #[.string ⟨#[98, 111, 116, 104]⟩, .string ⟨#[103, 111, 110, 101]⟩, .string ⟨#[107, 105, 110, 100, 115]⟩, .string ⟨#[115, 104, 97, 112, 101]⟩]) (.int .i64 3)).run Tryd.prog w = .ok (.string ⟨#[115, 104, 97, 112, 101]⟩) w := fun _ => by kernel_rfl
        go_enter Tryd.func10, Tryd.ntmps10
        go_wp2_with fail
        go_ret
        exact ⟨rfl, rfl⟩
    · rw [clsS_out (by omega)]
      have h1' : ¬ n < 1 := by omega
      have h4' : 4 < n := by omega
      clear h1 h4
      go_enter Tryd.func10, Tryd.ntmps10
      go_wp2_with fail
      go_ret
      exact ⟨rfl, rfl⟩
  · rw [clsS_out (by omega)]
    have h1' : n < 1 := by omega
    clear h1
    go_enter Tryd.func10, Tryd.ntmps10
    go_wp2_with fail
    go_ret
    exact ⟨rfl, rfl⟩
set_option maxRecDepth 100000 in
set_option maxHeartbeats 2000000 in
theorem stClash_any (w : World) (p : ByteArray) (n : Int) (hp : p.size ≤ 100000) :
    Calls Tryd.prog 9 #[.agg (clsC p n)] w fun e w' => e = .returned (.string (clashS p n)) ∧ Below w.heap.size w w' := by
  have HC := Lib.hid (fun W => stClass_any W n)
  have HR := Lib.hid (fun W => right_any W p (by omega))
  have hce := clsS_empty n
  have hB := Blk.new w 25 (clsC p n)
  have hb1 := (Below.refl w.heap.size w).alloc (Nat.le_refl _) (.cells (clsC p n) 25)
  have k0 : (w.alloc (.cells (clsC p n) 25)).cell? ⟨w.heap.size, 0, none⟩ = some (.string p) := hB.cell 0
  have k1 : (w.alloc (.cells (clsC p n) 25)).cell? ⟨w.heap.size, 1, none⟩ = some (.int .i64 n) := hB.cell 1
  have HB := Lib.hid hB; clear hB
  have HB1 := Lib.hid hb1; clear hb1
  by_cases hn : 1 ≤ n ∧ n ≤ 4
  · rw [decide_eq_false (by simpa using hn)] at hce
    cases hr : rightL p.data.toList with
    | true =>
      have hs : clashS p n = (⟨#[33, 32]⟩ ++ clsS n) ++ ⟨#[32]⟩ ++ p := by unfold clashS; rw [if_pos ⟨hn, hr⟩]
      rw [hs]
      rw [hr] at HR
      have hc5 := clsS_size n
      generalize clsS n = C at *
      have q1 : ¬ 9223372036854775807 < 2 + C.size := by omega
      have q2 : ¬ 9223372036854775807 < 2 + C.size + 1 := by omega
      have q3 : ¬ 9223372036854775807 < 2 + C.size + 1 + p.size := by omega
      clear hs hn hr
      go_enter Tryd.func9, Tryd.ntmps9
      go_wp2_with fail
      refine (HC.out _).mono ?_
      rintro e _ ⟨rfl, rfl⟩
      go_wp2_with fail
      refine (HR.out _).mono ?_
      rintro e w2 ⟨rfl, hb2⟩
      have hB2 := HB.out.below hb2 HB.out.lt
      have hb3 := HB1.out.trans (hb2.mono HB1.out.size)
      have hl2 := hB2.lt
      have k0 : ∀ m : Held (Aft w2), (HeldW m).cell? ⟨w.heap.size, 0, none⟩ = some (.string p) := fun m => (Aft.cell m hl2).trans (hB2.cell 0)
      have k1 : ∀ m : Held (Aft w2), (HeldW m).cell? ⟨w.heap.size, 1, none⟩ = some (.int .i64 n) := fun m => (Aft.cell m hl2).trans (hB2.cell 1)
      haveI := Aft.some w2
      go_wp2_with fail
      refine wp_region_class (Aft w2) (by kernel_rfl) (by kernel_rfl) (Aft.start w2) ?_
      repeat (go_big_quiet_step (with_reducible exact held_same (HC.out _)))
      refine wpQuiet_nil ?_
      rintro _ ⟨nn, rfl⟩
      have HW := HeldW_spec nn
      go_wp2_with fail
      go_ret
      exact ⟨rfl, hb3.trans (HW.mono hb3.size)⟩
    | false =>
      have hs : clashS p n = ⟨#[]⟩ := by unfold clashS; rw [if_neg (by rw [hr]; simp)]
      rw [hs]
      rw [hr] at HR
      generalize clsS n = C at *
      clear hs hn hr
      go_enter Tryd.func9, Tryd.ntmps9
      go_wp2_with fail
      refine (HC.out _).mono ?_
      rintro e _ ⟨rfl, rfl⟩
      go_wp2_with fail
      refine (HR.out _).mono ?_
      rintro e w2 ⟨rfl, hb2⟩
      have hb3 := HB1.out.trans (hb2.mono HB1.out.size)
      go_wp2_with fail
      go_ret
      exact ⟨rfl, hb3⟩
  · have hs : clashS p n = ⟨#[]⟩ := by unfold clashS; rw [if_neg (by intro h; exact hn h.1)]
    rw [hs]
    rw [decide_eq_true hn] at hce
    generalize clsS n = C at *
    clear hs hn
    go_enter Tryd.func9, Tryd.ntmps9
    go_wp2_with fail
    refine (HC.out _).mono ?_
    rintro e _ ⟨rfl, rfl⟩
    go_wp2_with fail
    go_ret
    exact ⟨rfl, HB1.out⟩
/-- which rows may be, case by case -/
theorem may_cases (p : ByteArray) (v n : Int) :
    (rightL p.data.toList = false ∧ mayR p v n = false) ∨ (rightL p.data.toList = true ∧ v < 0 ∧ mayR p v n = false) ∨ (rightL p.data.toList = true ∧ 3 < v ∧ mayR p v n = false) ∨
    (rightL p.data.toList = true ∧ v = 3 ∧ n < 1 ∧ mayR p v n = false) ∨ (rightL p.data.toList = true ∧ v = 3 ∧ 3 < n ∧ mayR p v n = false) ∨ (rightL p.data.toList = true ∧ v = 3 ∧ 1 ≤ n ∧ n ≤ 3 ∧ mayR p v n = true) ∨
    (rightL p.data.toList = true ∧ 0 ≤ v ∧ v < 3 ∧ n ≠ 0 ∧ mayR p v n = false) ∨ (rightL p.data.toList = true ∧ 0 ≤ v ∧ v < 3 ∧ n = 0 ∧ mayR p v n = true) := by
  unfold mayR
  cases rightL p.data.toList with
  | false => left; exact ⟨rfl, rfl⟩
  | true =>
    simp only [Bool.true_and]
    by_cases h3 : v = 3
    · rw [if_pos h3]
      by_cases h1 : 1 ≤ n
      · by_cases h2 : n ≤ 3
        · simp [h1, h2, h3]
        · have : 3 < n := by omega
          simp [h1, h2, h3, this]
      · have : n < 1 := by omega
        simp [h1, h3, this]
    · rw [if_neg h3]
      by_cases h0 : 0 ≤ v
      · by_cases h4 : v < 3
        · by_cases hn : n = 0
          · simp [h0, h4, hn, h3]
          · simp [h0, h4, hn, h3]
        · have : 3 < v := by omega
          simp [h0, h4, h3, this]
      · have : v < 0 := by omega
        simp [h0, h3, this]
set_option maxRecDepth 100000 in
set_option maxHeartbeats 4000000 in
theorem stMay_any (w : World) (p : ByteArray) (v n : Int) (hp : p.size ≤ 100000) :
    Calls Tryd.prog 18 #[.agg (rowC p v n)] w fun e w' => e = .returned (.bool (mayR p v n)) ∧ Below w.heap.size w w' := by
  have HR := Lib.hid (fun W => right_any W p (by omega))
  have hB := Blk.new w 28 (rowC p v n)
  have hb1 := (Below.refl w.heap.size w).alloc (Nat.le_refl _) (.cells (rowC p v n) 28)
  have k0 : (w.alloc (.cells (rowC p v n) 28)).cell? ⟨w.heap.size, 0, none⟩ = some (.string p) := hB.cell 0
  have HB := Lib.hid hB; clear hB
  have HB1 := Lib.hid hb1; clear hb1
  have hc := may_cases p v n
  generalize mayR p v n = R at *
  generalize rightL p.data.toList = r at *
  rcases hc with ⟨rfl, rfl⟩ | ⟨rfl, h, rfl⟩ | ⟨rfl, h, rfl⟩ | ⟨rfl, rfl, h, rfl⟩ | ⟨rfl, rfl, h, rfl⟩ | ⟨rfl, rfl, h, h', rfl⟩ | ⟨rfl, h, h', h'', rfl⟩ | ⟨rfl, h, h', rfl, rfl⟩
  case inl =>
    go_enter Tryd.func18, Tryd.ntmps18
    go_wp2_with fail
    refine (HR.out _).mono ?_
    rintro e w2 ⟨rfl, hb2⟩
    have hb3 := HB1.out.trans (hb2.mono HB1.out.size)
    go_wp2_with fail
    go_ret
    exact ⟨rfl, hb3⟩
  all_goals
    try (have g1 : ¬ v < 0 := by omega)
    try (have g2 : ¬ 3 < v := by omega)
    try (have g3 : (v == 3) = false := by rw [beq_eq_false_iff_ne]; omega)
    try (have g4 : (n == 0) = false := by rw [beq_eq_false_iff_ne]; omega)
    try (have g5 : ¬ 1 ≤ n := by omega)
    try (have g6 : ¬ n ≤ 3 := by omega)
    try clear h''
    go_enter Tryd.func18, Tryd.ntmps18
    go_wp2_with fail
    refine (HR.out _).mono ?_
    rintro e w2 ⟨rfl, hb2⟩
    have hB2 := HB.out.below hb2 HB.out.lt
    have hb3 := HB1.out.trans (hb2.mono HB1.out.size)
    have k1 := hB2.cell 1
    have k2 := hB2.cell 2
    simp at k1 k2
    go_wp2_with fail
    go_ret
    exact ⟨by first | rfl | (show Ending.returned (Value.bool (decide (n ≤ 3))) = _; rw [decide_eq_false (by omega)]), hb3⟩
end Go.Proofs.YtpnkgldpmalklaaDoor
