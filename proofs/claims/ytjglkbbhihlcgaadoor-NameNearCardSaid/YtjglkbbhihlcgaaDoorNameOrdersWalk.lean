/- The walk of NameOrders. -/
import Derived.Test.YtjglkbbhihlcgaaDoorRefBefore
import Derived.Test.YtjglkbbhihlcgaaDoorSameStr
set_option linter.unusedVariables false
set_option linter.unusedSimpArgs false
namespace Go.Proofs.YtjglkbbhihlcgaaDoor
open Go Go.ChangeShapes Go.WideShapes Go.ChangeAt Go.RowKit
open Go.ChangeMaps (open_string shut_string)
open Sw
set_option maxRecDepth 100000 in
set_option maxHeartbeats 8000000 in
theorem nameOrders_main (w : World) (s t : ByteArray) (hm : s.size ≤ maxLen) (hm2 : t.size ≤ maxLen) :
    Calls Tryd.prog 7 #[.string s, .string t] w fun e w' => e = .returned (.bool true) ∧ Below w.heap.size w w' := by
  unfold maxLen at hm hm2
  obtain ⟨k, hk, hmin⟩ : ∃ k : Nat, k ≤ s.size ∧ min (s.size : Int) 300 = k := ⟨min s.size 300, by omega, by omega⟩
  obtain ⟨m, hk2, hmin2⟩ : ∃ m : Nat, m ≤ t.size ∧ min (t.size : Int) 300 = m := ⟨min t.size 300, by omega, by omega⟩
  have hk6 : k ≤ 300 := by omega
  have hm6 : m ≤ 300 := by omega
  have hsz : (s.extract 0 k).size = k := by rw [ByteArray.size_extract]; omega
  have htz : (t.extract 0 m).size = m := by rw [ByteArray.size_extract]; omega
  obtain ⟨P, hP⟩ : ∃ P, s.extract 0 k = P := ⟨_, rfl⟩
  obtain ⟨Q, hQ⟩ : ∃ Q, t.extract 0 m = Q := ⟨_, rfl⟩
  rw [hP] at hsz
  rw [hQ] at htz
  have hk1 : (k : Int) ≤ s.size := by omega
  have hm1 : (m : Int) ≤ t.size := by omega
  have b1 := fun W => refBefore_any W P Q (by omega) (by omega)
  have b2 := fun W => refBefore_any W Q P (by omega) (by omega)
  have o1 := fun W => order_any W P Q (by omega) (by omega)
  have o2 := fun W => order_any W Q P (by omega) (by omega)
  rw [ordS_neg P Q] at b2 o2
  have hr3 := ordS_three P Q
  have u1 := fun W => refUps_any W Q (by omega)
  have u2 := fun W => under_any W P Q (by omega)
  generalize ordS P Q = R at *
  generalize hU : upsS Q = U at *
  clear hU
  have HB1 := Lib.hid b1; clear b1
  have HB2 := Lib.hid b2; clear b2
  have HO1 := Lib.hid o1; clear o1
  have HO2 := Lib.hid o2; clear o2
  have HU1 := Lib.hid u1; clear u1
  have HU2 := Lib.hid u2; clear u2
  have hneg : IntKind.i64.wrap (-R) = -R := IntWalk.i64_in _ (by omega)
  have HR3 := Lib.hid hr3; clear hr3 hsz htz
  go_enter Tryd.func7, Tryd.ntmps7
  go_wp2_with fail
  go_region
  have W1 : Below w.heap.size w w.drew := Below.drew (Below.refl _ _)
  generalize w.drew = w0 at *
  clear hmin hmin2 hP hQ
  go_wp2_with fail
  refine (HB1.out _).mono ?_
  rintro e w1 ⟨rfl, hb1⟩
  have W2 := W1.trans (hb1.mono W1.size)
  go_upto_if 21 with fail
  obtain ⟨z, hz⟩ : ∃ z : Int, (if R = -1 then (-1 : Int) else 0) = z := ⟨_, rfl⟩
  have HZ := Lib.hid hz; clear hz
  go_cut [5] from 21 to 21 (fun q wx => q = .int .i64 z ∧ wx = w1)
  case first =>
    by_cases h : R = -1
    · have HH := Lib.hid (show z = -1 by rw [← HZ.out]; exact if_pos h)
      have hd : decide (R = -1) = true := decide_eq_true h
      rw [hd]
      clear h
      go_wp2_with fail
      go_meet
      exact ⟨by rw [HH.out], rfl⟩
    · have HH := Lib.hid (show z = 0 by rw [← HZ.out]; exact if_neg h)
      have hd : decide (R = -1) = false := decide_eq_false h
      rw [hd]
      clear h
      go_wp2_with fail
      go_meet
      exact ⟨by rw [HH.out], rfl⟩
  case rest =>
    obtain ⟨rfl, rfl⟩ := hcut
    generalize wc = w2 at *
    go_wp2_with fail
    refine (HB2.out _).mono ?_
    rintro e w3 ⟨rfl, hb3⟩
    have W3 := W2.trans (hb3.mono W2.size)
    go_upto_if 24 with fail
    go_cut [5] from 24 to 24 (fun q wx => q = .int .i64 R ∧ wx = w3)
    case first =>
      by_cases h : R = 1
      · have HH := Lib.hid (show R = 1 from h)
        have hd : decide (R = 1) = true := decide_eq_true h
        rw [hd]
        clear h
        go_wp2_with fail
        go_meet
        exact ⟨by rw [HH.out], rfl⟩
      · have HH := Lib.hid (show z = R by rw [← HZ.out]; have := HR3.out; split <;> omega)
        have hd : decide (R = 1) = false := decide_eq_false h
        rw [hd]
        clear h
        go_wp2_with fail
        go_meet
        exact ⟨by rw [HH.out], rfl⟩
    case rest =>
      obtain ⟨rfl, rfl⟩ := hcut
      generalize wc = w4 at *
      go_wp2_with fail
      refine (HU1.out _).mono ?_
      rintro e w5 ⟨v, rfl, hs, hb5⟩
      obtain ⟨A, c, rfl, hc, hcm, hsl⟩ := hs
      have W5 := W3.trans (hb5.mono W3.size)
      unfold maxLen at hcm
      have hst := inS_step U P
      obtain ⟨N, hN⟩ : ∃ N, U.length = N := ⟨_, rfl⟩
      have HST := Lib.hid hst; clear hst
      have HN := Lib.hid hN
      rw [hN] at hc ⊢
      clear hN
      have HSL := Lib.hid hsl; clear hsl
      go_wp2_with fail
      go_loopw [6, 8, 28] (fun b _ iv wr => ∃ j : Nat, j ≤ N ∧ b = .bool (inS (U.take j) P) ∧ iv = .int .i64 j ∧ w5 = wr) (fun _ _ iv _ => N - (intOf iv).toNat)
      case atStart => exact ⟨0, Nat.zero_le _, rfl, rfl, rfl⟩
      case round =>
        obtain ⟨j, hj, rfl, rfl, rfl⟩ := hrel
        by_cases hlt : j < N
        · have i1 : (j : Int) < N := by omega
          have hjU : j < U.length := by have := HN.out; omega
          obtain ⟨b, off, rfl, _, q1⟩ := HSL.out (by omega)
          have g1 := q1 j hjU 0 (by omega)
          simp [bE] at g1
          have hst := HST.out j hjU
          have heq := beqT U[j] P
          clear q1
          generalize U[j] = X at *
          generalize inS (U.take j) P = b0 at *
          have HST2 := Lib.hid hst; clear hst
          cases b0 with
          | true =>
            go_wp2_with fail
            go_roundw
            case rel => exact ⟨j + 1, by omega, by rw [HST2.out]; rfl, by go_num, by simp⟩
            case measure => simp [intOf]; omega
          | false =>
            have HEQ := Lib.hid heq; clear heq
            go_wp2_with fail
            go_roundw
            case rel => exact ⟨j + 1, by omega, by rw [HST2.out, Bool.false_or, ← HEQ.out], by go_num, by simp⟩
            case measure => simp [intOf]; omega
        · obtain rfl : j = N := by omega
          have htk : U.take j = U := List.take_of_length_le (by have := HN.out; omega)
          rw [htk]
          clear htk hlt
          generalize inS U P = b0 at *
          go_wp2_with fail
          refine (HO1.out _).mono ?_
          rintro e x1 ⟨rfl, y1⟩
          go_wp2_with fail
          refine (HO2.out _).mono ?_
          rintro e x2 ⟨rfl, y2⟩
          have z2 := y1.trans (y2.mono y1.size)
          go_wp2_with fail
          refine (HU2.out _).mono ?_
          rintro e x3 ⟨rfl, y3⟩
          have z3 := z2.trans (y3.mono z2.size)
          have hbb : (b0 == b0) = true := by simp
          go_wp2_with fail
          refine (lives13 _).mono ?_
          rintro e x4 ⟨rfl, y4⟩
          have z4 := z3.trans (y4.mono z3.size)
          go_wp2_with fail
          go_ret
          exact ⟨rfl, W5.trans (z4.mono W5.size)⟩
set_option maxRecDepth 100000 in
theorem nameOrders_walk : Walks 7 Tryd.f7 := by
  intro H enc W base args ds ps hval hA hlt hsz
  rw [Tryd.params7] at hA hval
  obtain ⟨v0, v1, d0, d1, p0, p1, rfl, rfl, rfl, h0, h1⟩ := trodAll_two hA
  obtain ⟨s, rfl, rfl, rfl, hs⟩ := open_string Tryd.underlying9 (hval 0 9 v0 rfl rfl) h0
  obtain ⟨t, rfl, rfl, rfl, ht⟩ := open_string Tryd.underlying9 (hval 1 9 v1 rfl rfl) h1
  exact nameOrders_main W s t hs ht
end Go.Proofs.YtjglkbbhihlcgaaDoor
