/- Contracts of dos.Seconds and of the reference's. -/
import Derived.Test.YthmlfeaoaanmoaaDosTop
import Derived.Test.YthmlfeaoaanmoaaDosRef
import Derived.Test.YthmlfeaoaanmoaaDosSecPlain
set_option linter.unusedVariables false
namespace Go.Proofs.Ythmlfeaoaanmoaa
open Go.RowKit
open Sw
set_option maxRecDepth 100000 in
set_option maxHeartbeats 4000000 in
theorem seconds_any (w : World) (t : Int) (h0 : 0 ≤ t) (h1 : t < 4294967296) :
    Calls Try.prog 27 #[.int .u32 t] w fun e w' => e = .returned (.tuple #[.int .i64 (if (splitD t).Ok then secsD (splitD t) else 0), .bool (decide (splitD t).Ok)]) ∧ Below w.heap.size w w' := by
  have h := fun W => dosSplit_any W t h0 h1
  unfold splitOr at h
  generalize splitD t = x at *
  by_cases hok : x.Ok
  · simp only [if_pos hok, decide_eq_true hok] at h ⊢
    have hy := hok.year
    have hb := dayNo_bound hok
    have hdn : dayNo x = yrS (x.y - 1980).toNat + monS x.y (x.m - 1).toNat + (x.d - 1) := rfl
    have hsd : secsD x = dayNo x * 86400 + x.h * 3600 + x.mi * 60 + x.s := rfl
    have hok2 := hok
    unfold Dt.Ok at hok2
    obtain ⟨_, _, hh0, hh1, hi0, hi1, hs0, hs1, _⟩ := hok2
    obtain ⟨Y, hY⟩ : ∃ Y : Nat, x.y = 1980 + (Y : Int) := ⟨(x.y - 1980).toNat, by omega⟩
    obtain ⟨M, hM⟩ : ∃ M : Nat, x.m = (M : Int) + 1 := ⟨(x.m - 1).toNat, by omega⟩
    have e1 : (x.y - 1980).toNat = Y := by omega
    have e2 : (x.m - 1).toNat = M := by omega
    rw [e1, e2] at hdn
    clear e1 e2
    have hY1 : x.y ≤ 1980 + (Y : Int) := Int.le_of_eq hY
    have hY2 : 1980 + (Y : Int) ≤ x.y := Int.le_of_eq hY.symm
    have hM1 : x.m ≤ (M : Int) + 1 := Int.le_of_eq hM
    have hM2 : (M : Int) + 1 ≤ x.m := Int.le_of_eq hM.symm
    clear hY hM
    have HSP := Lib.hid h; clear h hok
    unfold Dt.v at HSP
    go_enter Try.func27, Try.ntmps27
    go_wp2_with fail
    refine (HSP.out _).mono ?_
    rintro e w1 ⟨rfl, hb1⟩
    have hT : Blk (w1.alloc (Obj.cells #[Value.int IntKind.i64 x.y, Value.int IntKind.i64 x.m, Value.int IntKind.i64 x.d, Value.int IntKind.i64 x.h, Value.int IntKind.i64 x.mi, Value.int IntKind.i64 x.s] 26)) w1.heap.size 26 (Dt.v x) := Blk.new w1 _ _
    have hB := hb1.alloc hb1.size (Obj.cells #[Value.int IntKind.i64 x.y, Value.int IntKind.i64 x.m, Value.int IntKind.i64 x.d, Value.int IntKind.i64 x.h, Value.int IntKind.i64 x.mi, Value.int IntKind.i64 x.s] 26)
    have HDN := Lib.hid hdn; clear hdn
    have HSD := Lib.hid hsd; clear hsd
    have hgs : w.heap.size ≤ w1.heap.size := hb1.size
    go_wp2_with fail
    generalize w1.alloc (Obj.cells #[Value.int IntKind.i64 x.y, Value.int IntKind.i64 x.m, Value.int IntKind.i64 x.d, Value.int IntKind.i64 x.h, Value.int IntKind.i64 x.mi, Value.int IntKind.i64 x.s] 26) = w2 at *
    generalize w1.heap.size = g at *
    clear hb1
    have c0 := hT.cell 0
    have c1 := hT.cell 1
    have c2 := hT.cell 2
    simp [Dt.v] at c0 c1 c2
    go_loop [6, 7] (fun dd yy => ∃ k : Nat, k ≤ Y ∧ yy = .int .i64 (1980 + (k : Int)) ∧ dd = .int .i64 (x.d - 1 + yrS k)) (fun _ yy => Y + 1980 - (intOf yy).toNat)
    case atStart => exact ⟨0, Nat.zero_le _, rfl, by simp [yrS]⟩
    case round =>
      obtain ⟨k, hk, rfl, rfl⟩ := hrel
      by_cases hlt : k < Y
      · have L := Lib.hid (fun W => leap_any W (1980 + (k : Int)) (by omega) (by omega))
        have hyr := yrS_bound k
        have hst : yrS (k + 1) = yrS k + 365 + (if leapI (1980 + (k : Int)) = true then 1 else 0) := rfl
        have hltx : 1980 + (k : Int) < x.y := by omega
        rcases hl : leapI (1980 + (k : Int)) with _ | _
        all_goals
          rw [hl] at L hst
          simp at hst
          have HST := Lib.hid hst; clear hst
          go_wp2_with (go_at_call 55; refine (L.out _).mono ?_; rintro e w' ⟨rfl, rfl⟩)
          exact ⟨⟨k + 1, by omega, by go_num, by rw [HST.out]; first | rfl | (congr 1; omega)⟩, by simp [intOf]; omega⟩
      · obtain rfl : k = Y := by omega
        have hltx : ¬ 1980 + (k : Int) < x.y := by omega
        have hyr := yrS_bound k
        go_wp2_with fail
        clear c0 c1 c2
        go_loopw [6, 8] (fun dd mm wr => ∃ j : Nat, j ≤ M ∧ mm = .int .i64 ((j : Int) + 1) ∧ dd = .int .i64 (x.d - 1 + yrS k + monS x.y j) ∧ Blk wr g 26 (Dt.v x) ∧ Below w.heap.size w wr) (fun _ mm _ => M + 1 - (intOf mm).toNat)
        case atStart => exact ⟨0, Nat.zero_le _, rfl, by simp [monS], hT, hB⟩
        case round =>
          obtain ⟨j, hj, rfl, rfl, hTr, hbr⟩ := hrel
          have c0 := hTr.cell 0
          have c1 := hTr.cell 1
          simp [Dt.v] at c0 c1
          have hmb := monS_bound x.y j
          by_cases hjm : j < M
          · have D := Lib.hid (fun W => days_any W x.y ((j : Int) + 1) (by omega) (by omega) (by omega) (by omega))
            have hdl := daysI_le x.y ((j : Int) + 1)
            have hst : monS x.y (j + 1) = monS x.y j + daysI x.y ((j : Int) + 1) := rfl
            have HST := Lib.hid hst; clear hst
            have hltm : (j : Int) + 1 < x.m := by omega
            generalize daysI x.y ((j : Int) + 1) = dd at *
            go_wp2_with (go_at_call 21; refine (D.out _).mono ?_; rintro e w4 ⟨rfl, hb4⟩)
            exact ⟨⟨j + 1, by omega, by go_num, by rw [HST.out]; first | rfl | (congr 1; omega), hTr.below hb4 hTr.lt, hbr.trans (hb4.mono hbr.size)⟩, by simp [intOf]; omega⟩
          · obtain rfl : j = M := by omega
            have hltm : ¬ (j : Int) + 1 < x.m := by omega
            have c3 := hTr.cell 3
            have c4 := hTr.cell 4
            have c5 := hTr.cell 5
            simp [Dt.v] at c3 c4 c5
            go_wp2_with fail
            go_ret2
            have hfin : secsD x = (x.d - 1 + yrS k + monS x.y j) * 86400 + (x.h * 3600 + x.mi * 60 + x.s) := by rw [HSD.out, HDN.out]; omega
            rw [hfin]
            exact ⟨rfl, hbr⟩
  · simp only [if_neg hok, decide_eq_false hok] at h ⊢
    have HSP := Lib.hid h; clear h
    unfold zeroD Dt.v at HSP
    go_enter Try.func27, Try.ntmps27
    go_wp2_with fail
    refine (HSP.out _).mono ?_
    rintro e w1 ⟨rfl, hb1⟩
    go_wp2_with fail
    go_ret2
    exact ⟨rfl, hb1.alloc hb1.size _⟩
end Go.Proofs.Ythmlfeaoaanmoaa
