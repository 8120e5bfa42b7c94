/- The walk of NameNear. -/
import Derived.Test.YtjglkbbhihlcgaaDoorNameOrdersWalk
set_option linter.unusedVariables false
set_option linter.unusedSimpArgs false
namespace Go.Proofs.YtjglkbbhihlcgaaDoor
open Go Go.ChangeShapes Go.WideShapes Go.ChangeAt Go.RowKit
open Go.ChangeMaps (open_string shut_string)
open Sw
set_option maxRecDepth 100000 in
set_option maxHeartbeats 8000000 in
theorem nameNear_main (w : World) (s t r : ByteArray) (hm : s.size ≤ maxLen) (hm2 : t.size ≤ maxLen) (hm3 : r.size ≤ maxLen) :
    Calls Tryd.prog 8 #[.string s, .string t, .string r] w fun e w' => e = .returned (.bool true) ∧ Below w.heap.size w w' := by
  unfold maxLen at hm hm2 hm3
  obtain ⟨k, hk, hmin⟩ : ∃ k : Nat, k ≤ s.size ∧ min (s.size : Int) 300 = k := ⟨min s.size 300, by omega, by omega⟩
  obtain ⟨m, hk2, hmin2⟩ : ∃ m : Nat, m ≤ t.size ∧ min (t.size : Int) 300 = m := ⟨min t.size 300, by omega, by omega⟩
  obtain ⟨n, hk3, hmin3⟩ : ∃ n : Nat, n ≤ r.size ∧ min (r.size : Int) 300 = n := ⟨min r.size 300, by omega, by omega⟩
  have hk6 : k ≤ 300 := by omega
  have hm6 : m ≤ 300 := by omega
  have hn6 : n ≤ 300 := by omega
  have hsz : (s.extract 0 k).size = k := by rw [ByteArray.size_extract]; omega
  have htz : (t.extract 0 m).size = m := by rw [ByteArray.size_extract]; omega
  have hrz : (r.extract 0 n).size = n := by rw [ByteArray.size_extract]; omega
  obtain ⟨P, hP⟩ : ∃ P, s.extract 0 k = P := ⟨_, rfl⟩
  obtain ⟨Q, hQ⟩ : ∃ Q, t.extract 0 m = Q := ⟨_, rfl⟩
  obtain ⟨S, hS⟩ : ∃ S, r.extract 0 n = S := ⟨_, rfl⟩
  rw [hP] at hsz
  rw [hQ] at htz
  rw [hS] at hrz
  have hk1 : (k : Int) ≤ s.size := by omega
  have hm1 : (m : Int) ≤ t.size := by omega
  have hn1 : (n : Int) ≤ r.size := by omega
  have hups : ∀ u ∈ upsS P, u.size ≤ 200 := fun u hu => by
    obtain ⟨j, hj, rfl⟩ := List.getElem_of_mem hu
    exact (ups_step P j hj).2.1
  have HF := Lib.hid (show (∀ W u, u ∈ upsS P → Calls Tryd.prog 36 #[.string u, .string P] W fun e w' => e = .returned (.int .i64 (-1)) ∧ Below W.heap.size W w') ∧
      (∀ W u, u ∈ upsS P → Calls Tryd.prog 37 #[.string u, .string P] W fun e w' => e = .returned (.bool true) ∧ Below W.heap.size W w') ∧
      (∀ W u, u ∈ upsS P → Calls Tryd.prog 11 #[.string u] W fun e w' => e = .returned (.bool true) ∧ Below W.heap.size W w') from by
    refine ⟨fun W u hu => ?_, fun W u hu => ?_, fun W u hu => ?_⟩
    · have h := order_any W u P (by have := hups u hu; omega) (by omega)
      rw [ups_order hu] at h
      exact h
    · have h := under_any W u P (by omega)
      rw [(inS_iff _ _).2 hu] at h
      exact h
    · have h := right_any W u (by have := hups u hu; omega)
      obtain ⟨_, _, _, _, h5⟩ := ups_mem hu
      rw [h5] at h
      exact h)
  have HU := Lib.hid (fun W => ups_any W P (by omega))
  have a1 := fun W => under_any W P Q (by omega)
  have a2 := fun W => right_any W S (by omega)
  have a3 := fun W => order_any W P S (by omega) (by omega)
  have a4 := fun W => order_any W S Q (by omega) (by omega)
  have a5 := fun W => under_any W P S (by omega)
  have a6 := fun W => order_any W P P (by omega) (by omega)
  have a7 := fun W => order_any W P Q (by omega) (by omega)
  rw [ordS_refl] at a6
  have hbt : inS (upsS Q) P = true → rightL S.data.toList = true → ordS P S = -1 → ordS S Q = -1 → inS (upsS S) P = true := fun h1 h2 h3 h4 => (inS_iff _ _).2 (between ((inS_iff _ _).1 h1) h2 h3 h4)
  have r1 := ordS_three P S
  have r2 := ordS_three S Q
  have r3 := @ordS_zero P Q
  have r4 := beqT P Q
  generalize inS (upsS Q) P = c1 at *
  generalize rightL S.data.toList = c2 at *
  generalize ordS P S = c3 at *
  generalize ordS S Q = c4 at *
  generalize inS (upsS S) P = c5 at *
  generalize ordS P Q = c7 at *
  generalize upsS P = U at *
  have HA1 := Lib.hid a1; clear a1
  have HA2 := Lib.hid a2; clear a2
  have HA3 := Lib.hid a3; clear a3
  have HA4 := Lib.hid a4; clear a4
  have HA5 := Lib.hid a5; clear a5
  have HA6 := Lib.hid a6; clear a6
  have HA7 := Lib.hid a7; clear a7
  have HBT := Lib.hid hbt; clear hbt
  have HR := Lib.hid (And.intro r1 (And.intro r2 (And.intro r3 r4))); clear r1 r2 r3 r4 hups hsz htz hrz
  go_enter Tryd.func8, Tryd.ntmps8
  go_wp2_with fail
  go_region
  have W1 : Below w.heap.size w w.drew := Below.drew (Below.refl _ _)
  generalize w.drew = w0 at *
  clear hmin hmin2 hmin3 hP hQ hS
  go_wp2_with fail
  refine (HU.out _).mono ?_
  rintro e w1 ⟨v, rfl, hs, hb1⟩
  obtain ⟨A, c, rfl, hc, hcm, hsl⟩ := hs
  have W2 := W1.trans (hb1.mono W1.size)
  unfold maxLen at hcm
  obtain ⟨N, hN⟩ : ∃ N, U.length = N := ⟨_, rfl⟩
  have HN := Lib.hid hN
  rw [hN] at hc ⊢
  clear hN
  have HSL := Lib.hid hsl; clear hsl
  go_wp2_with fail
  go_loopw [6, 8, 27] (fun b _ iv wr => ∃ j : Nat, j ≤ N ∧ b = .bool false ∧ iv = .int .i64 j ∧ Below w1.heap.size w1 wr) (fun _ _ iv _ => N - (intOf iv).toNat)
  case atStart => exact ⟨0, Nat.zero_le _, rfl, rfl, Below.refl _ _⟩
  case round =>
    obtain ⟨j, hj, rfl, rfl, hbr⟩ := hrel
    by_cases hlt : j < N
    · have i1 : (j : Int) < N := by omega
      have hjU : j < U.length := by have := HN.out; omega
      obtain ⟨b, off, rfl, _, q1⟩ := (HSL.out.below hbr (Nat.le_refl _)) (by omega)
      have g1 := q1 j hjU 0 (by omega)
      simp [bE] at g1
      have HX := Lib.hid (List.getElem_mem hjU)
      clear q1
      generalize U[j] = X at *
      go_wp2_with fail
      refine (HF.out.1 _ X HX.out).mono ?_
      rintro e x1 ⟨rfl, y1⟩
      have z1 := hbr.trans (y1.mono hbr.size)
      go_wp2_with fail
      refine (HF.out.2.1 _ X HX.out).mono ?_
      rintro e x2 ⟨rfl, y2⟩
      have z2 := z1.trans (y2.mono z1.size)
      go_wp2_with fail
      refine (HF.out.2.2 _ X HX.out).mono ?_
      rintro e x3 ⟨rfl, y3⟩
      have z3 := z2.trans (y3.mono z2.size)
      go_wp2_with fail
      go_roundw
      case rel => exact ⟨j + 1, by omega, rfl, by go_num, z3⟩
      case measure => simp [intOf]; omega
    · obtain rfl : j = N := by omega
      have W3 := W2.trans (hbr.mono W2.size)
      clear hlt
      go_upto_region 8 with fail
      go_cut [71] from 47 to 71 (fun q wx => q = .bool false ∧ Below wr.heap.size wr wx)
      case first =>
        cases c1 with
        | false =>
          go_wp2_with fail
          refine (HA1.out _).mono ?_
          rintro e x1 ⟨rfl, y1⟩
          go_wp2_with fail
          go_meet
          exact ⟨rfl, y1⟩
        | true =>
          go_wp2_with fail
          refine (HA1.out _).mono ?_
          rintro e x1 ⟨rfl, y1⟩
          go_wp2_with fail
          refine (HA2.out _).mono ?_
          rintro e x2 ⟨rfl, y2⟩
          have z2 := y1.trans (y2.mono y1.size)
          cases c2 with
          | false =>
            go_wp2_with fail
            go_meet
            exact ⟨rfl, z2⟩
          | true =>
            go_wp2_with fail
            refine (HA3.out _).mono ?_
            rintro e x3 ⟨rfl, y3⟩
            have z3 := z2.trans (y3.mono z2.size)
            by_cases h3 : c3 < 0
            · go_wp2_with fail
              refine (HA4.out _).mono ?_
              rintro e x4 ⟨rfl, y4⟩
              have z4 := z3.trans (y4.mono z3.size)
              by_cases h4 : c4 < 0
              · have h5 : c5 = true := HBT.out (by simp) (by simp) (by have := HR.out.1; omega) (by have := HR.out.2.1; omega)
                subst h5
                go_wp2_with fail
                refine (HA5.out _).mono ?_
                rintro e x5 ⟨rfl, y5⟩
                have z5 := z4.trans (y5.mono z4.size)
                go_wp2_with fail
                go_meet
                exact ⟨rfl, z5⟩
              · go_wp2_with fail
                go_meet
                exact ⟨rfl, z4⟩
            · go_wp2_with fail
              go_meet
              exact ⟨rfl, z3⟩
      case rest =>
        obtain ⟨rfl, hbc⟩ := hcut
        have W4 := W3.trans (hbc.mono W3.size)
        go_wp2_with fail
        refine (HA6.out _).mono ?_
        rintro e x1 ⟨rfl, y1⟩
        go_wp2_with fail
        refine (HA7.out _).mono ?_
        rintro e x2 ⟨rfl, y2⟩
        have z2 := y1.trans (y2.mono y1.size)
        by_cases h7 : c7 = 0
        · have hpq : (P.toList == Q.toList) = true := by rw [HR.out.2.2.2]; exact decide_eq_true (HR.out.2.2.1 h7)
          have h7b : (c7 == 0) = true := by rw [beq_iff_eq]; exact h7
          have H7 := Lib.hid h7; clear h7
          go_wp2_with fail
          refine (lives13 _).mono ?_
          rintro e x4 ⟨rfl, y4⟩
          have z4 := z2.trans (y4.mono z2.size)
          go_wp2_with fail
          go_ret
          exact ⟨rfl, W4.trans (z4.mono W4.size)⟩
        · have h7b : (c7 == 0) = false := by rw [beq_eq_false_iff_ne]; exact h7
          have H7 := Lib.hid h7; clear h7
          go_wp2_with fail
          refine (lives13 _).mono ?_
          rintro e x4 ⟨rfl, y4⟩
          have z4 := z2.trans (y4.mono z2.size)
          go_wp2_with fail
          go_ret
          exact ⟨rfl, W4.trans (z4.mono W4.size)⟩
set_option maxRecDepth 100000 in
theorem nameNear_walk : Walks 8 Tryd.f8 := by
  intro H enc W base args ds ps hval hA hlt hsz
  rw [Tryd.params8] at hA hval
  obtain ⟨v0, v1, v2, d0, d1, d2, p0, p1, p2, rfl, rfl, rfl, h0, h1, h2⟩ := trodAll_three hA
  obtain ⟨s, rfl, rfl, rfl, hs⟩ := open_string Tryd.underlying9 (hval 0 9 v0 rfl rfl) h0
  obtain ⟨t, rfl, rfl, rfl, ht⟩ := open_string Tryd.underlying9 (hval 1 9 v1 rfl rfl) h1
  obtain ⟨r, rfl, rfl, rfl, hr⟩ := open_string Tryd.underlying9 (hval 2 9 v2 rfl rfl) h2
  exact nameNear_main W s t r hs ht hr
end Go.Proofs.YtjglkbbhihlcgaaDoor
