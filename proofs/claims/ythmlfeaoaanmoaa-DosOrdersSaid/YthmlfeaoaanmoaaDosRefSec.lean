/- The contract of the reference's Seconds. -/
import Derived.Test.YthmlfeaoaanmoaaDosSec
set_option linter.unusedVariables false
namespace Go.Proofs.Ythmlfeaoaanmoaa
open Go.RowKit
open Sw
set_option maxRecDepth 100000 in
set_option maxHeartbeats 4000000 in
theorem refSeconds_any (w : World) (x : Dt) (hok : x.Ok) :
    Calls Try.prog 28 #[.agg (Dt.v x)] w fun e w' => e = .returned (.int .i64 (secsD x)) ∧ Below w.heap.size w w' := by
  have hy := hok.year
  have hb := dayNo_bound hok
  have hdn : dayNo x = yrS (x.y - 1980).toNat + monS x.y (x.m - 1).toNat + (x.d - 1) := rfl
  have hsd : secsD x = dayNo x * 86400 + x.h * 3600 + x.mi * 60 + x.s := rfl
  have hok2 := hok
  unfold Dt.Ok at hok2
  obtain ⟨_, _, hh0, hh1, hi0, hi1, hs0, hs1, _⟩ := hok2
  obtain ⟨Y, hY⟩ : ∃ Y : Nat, x.y = 1980 + (Y : Int) := ⟨(x.y - 1980).toNat, by omega⟩
  obtain ⟨M, hM⟩ : ∃ M : Nat, x.m = (M : Int) + 1 := ⟨(x.m - 1).toNat, by omega⟩
  have e1 : (x.y - 1980).toNat = Y := by omega
  have e2 : (x.m - 1).toNat = M := by omega
  rw [e1, e2, hY] at hdn
  clear e1 e2 hok
  have hY1 : x.y ≤ 1980 + (Y : Int) := Int.le_of_eq hY
  have hY2 : 1980 + (Y : Int) ≤ x.y := Int.le_of_eq hY.symm
  have hM1 : x.m ≤ (M : Int) + 1 := Int.le_of_eq hM
  have hM2 : (M : Int) + 1 ≤ x.m := Int.le_of_eq hM.symm
  clear hY hM
  have hT : Blk (w.alloc (Obj.cells (Dt.v x) 24)) w.heap.size 24 (Dt.v x) := Blk.new w _ _
  have hB : Below w.heap.size w (w.alloc (Obj.cells (Dt.v x) 24)) := (Below.refl _ _).alloc (Nat.le_refl _) _
  have HDN := Lib.hid hdn; clear hdn
  have HSD := Lib.hid hsd; clear hsd
  go_enter Try.func28, Try.ntmps28
  go_wp2_with fail
  generalize w.alloc (Obj.cells (Dt.v x) 24) = w2 at *
  have c0 := hT.cell 0
  have c1 := hT.cell 1
  have c2 := hT.cell 2
  have c3 := hT.cell 3
  have c4 := hT.cell 4
  have c5 := hT.cell 5
  simp [Dt.v] at c0 c1 c2 c3 c4 c5
  go_loop [3, 4, 5] (fun n yy _ => ∃ k : Nat, k ≤ Y + 1 ∧ yy = .int .i64 (1980 + (k : Int)) ∧ n = .int .i64 (if k ≤ Y then yrS k else yrS Y + monS (1980 + (Y : Int)) M)) (fun _ yy _ => Y + 1 + 1980 - (intOf yy).toNat)
  case atStart => exact ⟨0, Nat.zero_le _, rfl, by simp [yrS]⟩
  case round =>
    obtain ⟨k, hk, rfl, rfl⟩ := hrel
    by_cases hle : k ≤ Y
    · rw [if_pos hle] at *
      have hltx : 1980 + (k : Int) ≤ x.y := by omega
      have hyr := yrS_bound k
      by_cases hlt : k < Y
      · have hst := yrS_step k (by omega)
        have hlty : 1980 + (k : Int) < x.y := by omega
        have HST := Lib.hid hst; clear hst
        go_wp2_with fail
        go_loop [3, 5] (fun n mm => ∃ j : Nat, j ≤ 12 ∧ mm = .int .i64 ((j : Int) + 1) ∧ n = .int .i64 (yrS k + monS (1980 + (k : Int)) j)) (fun _ mm => 13 - (intOf mm).toNat)
        case atStart => exact ⟨0, Nat.zero_le _, rfl, by simp [monS]⟩
        case round =>
          obtain ⟨j, hj, rfl, rfl⟩ := hrel
          have hmb := monS_bound (1980 + (k : Int)) j
          by_cases hj12 : j < 12
          · have D := Lib.hid (fun W => refDays_any W (1980 + (k : Int)) ((j : Int) + 1) (by omega) (by omega))
            have hdl := daysI_le (1980 + (k : Int)) ((j : Int) + 1)
            have hs2 : monS (1980 + (k : Int)) (j + 1) = monS (1980 + (k : Int)) j + daysI (1980 + (k : Int)) ((j : Int) + 1) := rfl
            have HS2 := Lib.hid hs2; clear hs2
            have hltm : (j : Int) + 1 ≤ 12 := by omega
            generalize daysI (1980 + (k : Int)) ((j : Int) + 1) = dd at *
            go_wp2_with (go_at_call 22; refine (D.out _).mono ?_; rintro e w4 ⟨rfl, rfl⟩)
            exact ⟨⟨j + 1, by omega, by go_num, by rw [HS2.out]; first | rfl | (congr 1; omega)⟩, by simp [intOf]; omega⟩
          · obtain rfl : j = 12 := by omega
            go_wp2_with fail
            exact ⟨⟨k + 1, by omega, by go_num, by rw [if_pos (by omega), HST.out]⟩, by simp [intOf]; omega⟩
      · obtain rfl : k = Y := by omega
        have hlty : ¬ 1980 + (k : Int) < x.y := by omega
        go_wp2_with fail
        go_loop [3, 5] (fun n mm => ∃ j : Nat, j ≤ 12 ∧ mm = .int .i64 ((j : Int) + 1) ∧ n = .int .i64 (yrS k + monS (1980 + (k : Int)) (min j M))) (fun _ mm => 13 - (intOf mm).toNat)
        case atStart => exact ⟨0, Nat.zero_le _, rfl, by simp [monS]⟩
        case round =>
          obtain ⟨j, hj, rfl, rfl⟩ := hrel
          by_cases hj12 : j < 12
          · have hltm : (j : Int) + 1 ≤ 12 := by omega
            by_cases hjM : j < M
            · have e1 : min j M = j := by omega
              have e2 : min (j + 1) M = j + 1 := by omega
              rw [e1]
              have hmb := monS_bound (1980 + (k : Int)) j
              have D := Lib.hid (fun W => refDays_any W (1980 + (k : Int)) ((j : Int) + 1) (by omega) (by omega))
              have hdl := daysI_le (1980 + (k : Int)) ((j : Int) + 1)
              have hs2 : monS (1980 + (k : Int)) (j + 1) = monS (1980 + (k : Int)) j + daysI (1980 + (k : Int)) ((j : Int) + 1) := rfl
              have HS2 := Lib.hid hs2; clear hs2
              have E2 := Lib.hid e2; clear e1 e2
              have hmm : (j : Int) + 1 < x.m := by omega
              generalize daysI (1980 + (k : Int)) ((j : Int) + 1) = dd at *
              go_wp2_with (go_at_call 22; refine (D.out _).mono ?_; rintro e w4 ⟨rfl, rfl⟩)
              exact ⟨⟨j + 1, by omega, by go_num, by rw [E2.out, HS2.out]; first | rfl | (congr 1; omega)⟩, by simp [intOf]; omega⟩
            · have e1 : min j M = M := by omega
              have e2 : min (j + 1) M = M := by omega
              rw [e1]
              have E2 := Lib.hid e2; clear e1 e2
              have hmm : ¬ (j : Int) + 1 < x.m := by omega
              go_wp2_with fail
              exact ⟨⟨j + 1, by omega, by go_num, by rw [E2.out]⟩, by simp [intOf]; omega⟩
          · obtain rfl : j = 12 := by omega
            have e1 : min 12 M = M := by omega
            rw [e1]
            clear e1
            go_wp2_with fail
            exact ⟨⟨k + 1, by omega, by go_num, by rw [if_neg (by omega)]⟩, by simp [intOf]; omega⟩
    · obtain rfl : k = Y + 1 := by omega
      rw [if_neg hle] at *
      have hltx : ¬ 1980 + ((Y + 1 : Nat) : Int) ≤ x.y := by omega
      have hltx2 : ¬ 1980 + ((Y : Int) + 1) ≤ x.y := by omega
      have hyr := yrS_bound Y
      have hmb := monS_bound (1980 + (Y : Int)) M
      have hfin : secsD x = (((yrS Y + monS (1980 + (Y : Int)) M + (x.d - 1)) * 24 + x.h) * 60 + x.mi) * 60 + x.s := by rw [HSD.out, HDN.out]; omega
      have HFIN := Lib.hid hfin; clear hfin
      go_wp2_with fail
      go_ret
      rw [HFIN.out]
      exact ⟨rfl, hB⟩
end Go.Proofs.Ythmlfeaoaanmoaa
