/- The contract of dos.From. -/
import Derived.Test.YthmlfeaoaanmoaaDosRefSec
set_option linter.unusedVariables false
namespace Go.Proofs.Ythmlfeaoaanmoaa
open Go.RowKit
open Sw
theorem daysI_pos (y m : Int) (h : ¬ (y < 1980 ∨ 2107 < y ∨ m < 1 ∨ 12 < m)) : 28 ≤ daysI y m := by
  unfold daysI
  rw [if_neg h]
  split
  · split <;> omega
  · split <;> omega
theorem from_neg (w : World) (n : Int) (h0 : -9223372036854775808 ≤ n) (h : n < 0) :
    Calls Try.prog 29 #[.int .i64 n] w fun e w' => e = .returned (.tuple #[.int .u32 0, .bool false]) ∧ w = w' := by
  go_enter Try.func29, Try.ntmps29
  go_wp2_with fail
  go_ret2
  exact ⟨rfl, rfl⟩
def rowD (a b c d e f : Int) : Array Value := #[.int .i64 a, .int .i64 b, .int .i64 c, .int .i64 d, .int .i64 e, .int .i64 f]
set_option maxRecDepth 100000 in
set_option maxHeartbeats 4000000 in
theorem from_any (w : World) (n : Int) (h0 : 0 ≤ n) (h1 : n ≤ 9223372036854775807) :
    Calls Try.prog 29 #[.int .i64 n] w fun e w' => ((∃ x : Dt, x.Ok ∧ secsD x = n - n % 2 ∧ n < 4039286400 ∧ e = .returned (.tuple #[.int .u32 (ofD x), .bool true])) ∨ (4039286400 ≤ n ∧ e = .returned (.tuple #[.int .u32 0, .bool false]))) ∧ Below w.heap.size w w' := by
  obtain ⟨N, hN⟩ : ∃ N : Int, n / 86400 = N := ⟨_, rfl⟩
  obtain ⟨R, hR⟩ : ∃ a : Int, n % 86400 = a := ⟨_, rfl⟩
  obtain ⟨hh, hhh⟩ : ∃ a : Int, R / 3600 = a := ⟨_, rfl⟩
  obtain ⟨q, hq⟩ : ∃ a : Int, R / 60 = a := ⟨_, rfl⟩
  obtain ⟨mi, hmi⟩ : ∃ a : Int, q % 60 = a := ⟨_, rfl⟩
  obtain ⟨p, hp⟩ : ∃ a : Int, R % 60 = a := ⟨_, rfl⟩
  obtain ⟨p2, hp2⟩ : ∃ a : Int, p / 2 = a := ⟨_, rfl⟩
  obtain ⟨ss, hss⟩ : ∃ a : Int, p2 * 2 = a := ⟨_, rfl⟩
  have hB : Below w.heap.size w (w.alloc (Obj.cells (rowD (1980 + ((0 : Nat) : Int)) (((0 : Nat) : Int) + 1) 0 hh mi ss) 26)) := (Below.refl _ _).alloc (Nat.le_refl _) _
  have hT : Blk (w.alloc (Obj.cells (rowD (1980 + ((0 : Nat) : Int)) (((0 : Nat) : Int) + 1) 0 hh mi ss) 26)) w.heap.size 26 (rowD (1980 + ((0 : Nat) : Int)) (((0 : Nat) : Int) + 1) 0 hh mi ss) := Blk.new w _ _
  have hrow : rowD (1980 + ((0 : Nat) : Int)) (((0 : Nat) : Int) + 1) 0 hh mi ss = #[.int .i64 1980, .int .i64 1, .int .i64 0, .int .i64 hh, .int .i64 mi, .int .i64 ss] := rfl
  have hsum : N * 86400 + hh * 3600 + mi * 60 + ss = n - n % 2 := by omega
  have hbd : 0 ≤ hh ∧ hh < 24 ∧ 0 ≤ mi ∧ mi < 60 ∧ 0 ≤ ss ∧ ss < 60 ∧ ss % 2 = 0 := by omega
  have hNn : N * 86400 ≤ n ∧ n < N * 86400 + 86400 ∧ 0 ≤ N := by omega
  have hRb : 0 ≤ R ∧ R < 86400 ∧ 0 ≤ q ∧ q < 1440 ∧ 0 ≤ p ∧ p < 60 ∧ 0 ≤ p2 ∧ p2 < 30 := by omega
  obtain ⟨R0, R1, q0, q1, p0, p1, p20, p21⟩ := hRb
  obtain ⟨hn0, hn1, hn2⟩ := hNn
  have HSUM := Lib.hid hsum; clear hsum
  have HBD := Lib.hid hbd; clear hbd
  rw [hrow] at hB hT
  have HB := Lib.hid hB; clear hB hrow
  have HT := Lib.hid hT; clear hT
  go_enter Try.func29, Try.ntmps29
  go_wp2_with fail
  have hB := HB.out
  have hT := HT.out
  have HN := Lib.hid hN; clear hN
  clear HB HT hR hhh hq hmi hp hp2 hss R0 R1 q0 q1 p0 p1 p20 p21
  generalize w.alloc (Obj.cells #[.int .i64 1980, .int .i64 1, .int .i64 0, .int .i64 hh, .int .i64 mi, .int .i64 ss] 26) = w2 at *
  have hgs : w.heap.size ≤ w.heap.size := Nat.le_refl _
  go_loopw [4] (fun dv wr => ∃ (k m : Nat) (dd : Int), k ≤ 127 ∧ m < 12 ∧ dv = .int .i64 dd ∧ 0 ≤ dd ∧ dd + yrS k + monS (1980 + (k : Int)) m = N ∧ Blk wr w.heap.size 26 (rowD (1980 + (k : Int)) ((m : Int) + 1) 0 hh mi ss) ∧ Below w.heap.size w wr) (fun dv _ => (intOf dv).toNat)
  case atStart => exact ⟨0, 0, N, by omega, by omega, by rw [HN.out], hn2, by simp [yrS, monS], hT, hB⟩
  case round =>
    obtain ⟨k, m, dd, hk, hm, rfl, hd0, hdN, hTr, hbr⟩ := hrel
    have hDp := daysI_pos (1980 + (k : Int)) ((m : Int) + 1) (by omega)
    have hDl := daysI_le (1980 + (k : Int)) ((m : Int) + 1)
    have hst : monS (1980 + (k : Int)) (m + 1) = monS (1980 + (k : Int)) m + daysI (1980 + (k : Int)) ((m : Int) + 1) := rfl
    have D := Lib.hid (fun W => days_any W (1980 + (k : Int)) ((m : Int) + 1) (by omega) (by omega) (by omega) (by omega))
    have hyb := yrS_bound k
    have hmb := monS_bound (1980 + (k : Int)) m
    have hys := yrS_step k hk
    have hdeq : daysI (1980 + (k : Int)) ((m : Int) + 1) = daysI (1980 + (k : Int)) ((m : Int) + 1) := rfl
    obtain ⟨DD, hDD⟩ : ∃ DD : Int, daysI (1980 + (k : Int)) ((m : Int) + 1) = DD := ⟨_, rfl⟩
    rw [hDD] at hDp hDl hst D
    have HDD := Lib.hid hDD; clear hDD hdeq
    have HST := Lib.hid hst; clear hst
    have HYS := Lib.hid hys; clear hys
    have HDN := Lib.hid hdN; clear hdN
    have hmax : max DD 1 = DD := by omega
    have hddb : dd ≤ 106751991167300 := by have := HDN.out; omega
    have c0 := hTr.cell 0
    have c1 := hTr.cell 1
    simp [rowD] at c0 c1
    by_cases hge : DD ≤ dd
    · go_wp2_with fail
      refine (D.out _).mono ?_
      rintro e w3 ⟨rfl, hb3⟩
      have hT3 := hTr.below hb3 hTr.lt
      have hbw3 := hbr.trans (hb3.mono hbr.size)
      clear c0 c1
      have c0 := hT3.cell 0
      have c1 := hT3.cell 1
      simp [rowD] at c0 c1
      go_wp2_with fail
      refine (D.out _).mono ?_
      rintro e w4 ⟨rfl, hb4⟩
      have hT4 := hT3.below hb4 hT3.lt
      have hbw4 := hbw3.trans (hb4.mono hbw3.size)
      clear c0 c1
      have c0 := hT4.cell 0
      have c1 := hT4.cell 1
      have f0 := hT4.frozen 0
      have f1 := hT4.frozen 1
      simp [rowD] at c0 c1
      by_cases hm11 : m = 11
      · subst hm11
        have hgt : (12 : Int) < ((11 : Nat) : Int) + 1 + 1 := by omega
        by_cases hk127 : k = 127
        · subst hk127
          have hyl : (2107 : Int) < 1980 + ((127 : Nat) : Int) + 1 := by omega
          have hbig : 4039286400 ≤ n := by
            have e1 : yrS 128 = yrS 127 + monS (1980 + ((127 : Nat) : Int)) 12 := HYS.out
            have e2 : monS (1980 + ((127 : Nat) : Int)) 12 = monS (1980 + ((127 : Nat) : Int)) 11 + DD := HST.out
            have e3 := HDN.out
            have e4 := yrS_128
            omega
          have HBIG := Lib.hid hbig; clear hbig
          go_wp2_with fail
          go_ret2
          exact ⟨.inr ⟨HBIG.out, rfl⟩, ((hbw4.setCell (Nat.le_refl _) _).setCell (Nat.le_refl _) _).setCell (Nat.le_refl _) _⟩
        · have hyl : ¬ (2107 : Int) < 1980 + (k : Int) + 1 := by omega
          have hsum2 : (dd - DD) + yrS (k + 1) + 0 = N := by
            have e1 := HYS.out
            have e2 : monS (1980 + (k : Int)) 12 = monS (1980 + (k : Int)) 11 + DD := HST.out
            have e3 := HDN.out
            omega
          have HS2 := Lib.hid hsum2; clear hsum2
          have hrow : rowD (1980 + ((k + 1 : Nat) : Int)) (((0 : Nat) : Int) + 1) 0 hh mi ss = #[.int .i64 (1980 + (k : Int) + 1), .int .i64 1, .int .i64 0, .int .i64 hh, .int .i64 mi, .int .i64 ss] := by
            have e : (1980 + ((k + 1 : Nat) : Int)) = 1980 + (k : Int) + 1 := by omega
            rw [e]; rfl
          have HROW := Lib.hid hrow; clear hrow
          go_wp2_with fail
          go_roundw
          case rel =>
            refine ⟨k + 1, 0, dd - DD, by omega, by omega, rfl, by omega, HS2.out, ?_, ((hbw4.setCell (Nat.le_refl _) _).setCell (Nat.le_refl _) _).setCell (Nat.le_refl _) _⟩
            rw [HROW.out]
            exact ((hT4.put 1 _).put 0 _).put 1 _
          case measure => simp [intOf]; omega
      · have hgt : ¬ (12 : Int) < (m : Int) + 1 + 1 := by omega
        have hyl : ¬ (2107 : Int) < 1980 + (k : Int) := by omega
        have hsum2 : (dd - DD) + yrS k + monS (1980 + (k : Int)) (m + 1) = N := by
          have e2 := HST.out
          have e3 := HDN.out
          omega
        have HS2 := Lib.hid hsum2; clear hsum2
        have hrow : rowD (1980 + (k : Int)) (((m + 1 : Nat) : Int) + 1) 0 hh mi ss = #[.int .i64 (1980 + (k : Int)), .int .i64 ((m : Int) + 1 + 1), .int .i64 0, .int .i64 hh, .int .i64 mi, .int .i64 ss] := by
          have e : (((m + 1 : Nat) : Int) + 1) = (m : Int) + 1 + 1 := by omega
          rw [e]; rfl
        have HROW := Lib.hid hrow; clear hrow
        go_wp2_with fail
        go_roundw
        case rel =>
          refine ⟨k, m + 1, dd - DD, hk, by omega, rfl, by omega, HS2.out, ?_, hbw4.setCell (Nat.le_refl _) _⟩
          rw [HROW.out]
          exact hT4.put 1 _
        case measure => simp [intOf]; omega
    · obtain ⟨x, hx⟩ : ∃ x : Dt, x = ⟨1980 + (k : Int), (m : Int) + 1, dd + 1, hh, mi, ss⟩ := ⟨_, rfl⟩
      have hb := HBD.out
      have hok : x.Ok := by
        rw [hx]
        unfold Dt.Ok
        have e := HDD.out
        simp only
        omega
      have hin : Dt.In x := by
        rw [hx]
        constructor <;> (simp only; omega)
      have hdn : dayNo x = N := by
        rw [hx]
        unfold dayNo
        simp only
        have e1 : (1980 + (k : Int) - 1980).toNat = k := by omega
        have e2 : ((m : Int) + 1 - 1).toNat = m := by omega
        rw [e1, e2]
        have e3 := HDN.out
        omega
      have hlt := (dayNo_bound hok).2
      rw [hdn] at hlt
      have hsec : secsD x = n - n % 2 := by
        unfold secsD
        rw [hdn, hx]
        simp only
        have := HSUM.out
        omega
      have hof := fun W => dosOf_any W x hin hok
      have hv : Dt.v x = #[.int .i64 (1980 + (k : Int)), .int .i64 ((m : Int) + 1), .int .i64 (dd + 1), .int .i64 hh, .int .i64 mi, .int .i64 ss] := by rw [hx]; rfl
      rw [hv] at hof
      have HOF := Lib.hid hof; clear hof
      have HP := Lib.hid (show ∃ y : Dt, y.Ok ∧ secsD y = n - n % 2 ∧ n < 4039286400 ∧ Ending.returned (.tuple #[.int .u32 (ofD x), .bool true]) = Ending.returned (.tuple #[.int .u32 (ofD y), .bool true]) from ⟨x, hok, hsec, by omega, rfl⟩)
      clear hx hv hok hin hdn hlt hsec hb
      generalize ofD x = ox at *
      go_wp2_with fail
      refine (D.out _).mono ?_
      rintro e w3 ⟨rfl, hb3⟩
      have hT3 := hTr.below hb3 hTr.lt
      have hbw3 := hbr.trans (hb3.mono hbr.size)
      clear c0 c1
      have c0 := hT3.cell 0
      have c1 := hT3.cell 1
      have c2 := hT3.cell 2
      have c3 := hT3.cell 3
      have c4 := hT3.cell 4
      have c5 := hT3.cell 5
      have f2 := hT3.frozen 2
      simp [rowD] at c0 c1 c2 c3 c4 c5
      go_wp2_with fail
      refine (HOF.out _).mono ?_
      rintro e w5 ⟨rfl, hb5⟩
      go_wp2_with fail
      go_ret2
      have hw := hbw3.setCell (p := ⟨w.heap.size, 2, none⟩) (Nat.le_refl _) (.int .i64 (dd + 1))
      exact ⟨.inl HP.out, hw.trans (hb5.mono hw.size)⟩
end Go.Proofs.Ythmlfeaoaanmoaa
