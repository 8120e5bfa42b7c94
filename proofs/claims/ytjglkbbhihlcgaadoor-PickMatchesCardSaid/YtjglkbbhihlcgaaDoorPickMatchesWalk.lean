/- The walk of PickMatches. -/
import Derived.Test.YtjglkbbhihlcgaaDoorPickLongWalk
import Derived.Test.YtjglkbbhihlcgaaDoorRefPick
import Derived.Test.YtjglkbbhihlcgaaDoorRefPickRight
import Derived.Test.YtjglkbbhihlcgaaDoorPickAny
import Derived.Test.YtjglkbbhihlcgaaDoorRefAny
set_option linter.unusedVariables false
set_option linter.unusedSimpArgs false
namespace Sw
open Go Go.RowKit
/-- at most four texts of at most fourteen bytes -/
def shortL (l : List ByteArray) : Bool := decide (l.length ≤ 4) && l.all (fun x => decide (x.size ≤ 14))
theorem shortL_true {l : List ByteArray} (h : shortL l = true) : l.length ≤ 4 ∧ ∀ x ∈ l, x.size ≤ 14 := by
  unfold shortL at h
  rw [Bool.and_eq_true, decide_eq_true_eq, List.all_eq_true] at h
  exact ⟨h.1, fun x hx => of_decide_eq_true (h.2 x hx)⟩
theorem shortL_big {l : List ByteArray} (h : ¬ l.length ≤ 4) : shortL l = false := by
  unfold shortL
  rw [decide_eq_false h]
  rfl
theorem shortL_one {l : List ByteArray} {x : ByteArray} (hx : x ∈ l) (h : ¬ x.size ≤ 14) : shortL l = false := by
  cases hs : shortL l with
  | false => rfl
  | true => exact absurd ((shortL_true hs).2 x hx) h
theorem shortL_all {l : List ByteArray} (h1 : l.length ≤ 4) (h2 : ∀ j (h : j < l.length), l[j].size ≤ 14) : shortL l = true := by
  unfold shortL
  rw [Bool.and_eq_true, decide_eq_true_eq, List.all_eq_true]
  refine ⟨h1, fun x hx => ?_⟩
  obtain ⟨j, hj, rfl⟩ := List.getElem_of_mem hx
  exact decide_eq_true (h2 j hj)
end Sw
namespace Go.Proofs.YtjglkbbhihlcgaaDoor
open Go Go.ChangeShapes Go.WideShapes Go.ChangeAt Go.RowKit
open Go.ChangeMaps (open_string shut_string)
open Sw
set_option maxRecDepth 100000 in
set_option maxHeartbeats 2000000 in
theorem short_any (w : World) (A : Option Addr) (n c : Nat) (l : List ByteArray) (hl : l.length = n) (hn : n ≤ maxLen) (hsl : SlOf w 1 bE A l) :
    Calls Tryd.prog 17 #[.slice A n c] w fun e w' => e = .returned (.bool (shortL l)) ∧ w' = w := by
  unfold maxLen at hn
  have HS := Lib.hid hsl; clear hsl
  have HL := Lib.hid hl; clear hl
  by_cases h4 : n ≤ 4
  · have h4I : (n : Int) ≤ 4 := by omega
    go_enter Tryd.func17, Tryd.ntmps17
    go_wp2_with fail
    go_loopw [2, 4, 10] (fun r _ iv wr => ∃ i : Nat, i ≤ n ∧ r = .bool false ∧ iv = .int .i64 i ∧ (∀ j (h : j < l.length), j < i → l[j].size ≤ 14) ∧ w = wr) (fun _ _ iv _ => n - (intOf iv).toNat)
    case atStart => exact ⟨0, Nat.zero_le _, rfl, rfl, fun j h h' => by omega, rfl⟩
    case round =>
      obtain ⟨i, hi, rfl, rfl, hall, rfl⟩ := hrel
      by_cases hlt : i < n
      · have hiL : i < l.length := by have := HL.out; omega
        obtain ⟨b, off, rfl, hbb, hcs⟩ := HS.out (by omega)
        have hci := hcs i hiL 0 (by omega)
        simp [bE] at hci
        have HA := Lib.hid hall; clear hall hcs
        have hmem := List.getElem_mem hiL
        have HNX := Lib.hid (fun (hx : l[i].size ≤ 14) => (fun j (h : j < l.length) (hj : j < i + 1) => (by
          by_cases h2 : j < i
          · exact HA.out j h h2
          · obtain rfl : j = i := by omega
            exact hx : l[j].size ≤ 14)))
        have HNO := Lib.hid (fun (hx : ¬ l[i].size ≤ 14) => shortL_one hmem hx)
        clear hmem
        generalize l[i] = X at *
        have hiI : (i : Int) < n := by omega
        by_cases hX : X.size ≤ 14
        · have HY := Lib.hid (HNX.out hX)
          have hXI : (X.size : Int) ≤ 14 := by omega
          go_wp2_with fail
          go_roundw
          case rel => exact ⟨i + 1, by omega, rfl, by go_num, HY.out, by simp⟩
          case measure => simp [intOf]; omega
        · have HY := Lib.hid (HNO.out hX)
          have hXI : ¬ (X.size : Int) ≤ 14 := by omega
          have hXJ : (14 : Int) < X.size := by omega
          go_wp2_with fail
          go_ret
          exact ⟨by rw [HY.out]; rfl, rfl⟩
      · obtain rfl : i = n := by omega
        have HT := Lib.hid (shortL_all (l := l) (by have := HL.out; omega) (fun j h => hall j h (by have := HL.out; omega)))
        clear hall hlt
        go_wp2_with fail
        go_ret
        exact ⟨by rw [HT.out]; rfl, rfl⟩
  · have HT := Lib.hid (shortL_big (l := l) (by have := HL.out; omega))
    have h4I : ¬ (n : Int) ≤ 4 := by omega
    have h4J : (4 : Int) < n := by omega
    go_enter Tryd.func17, Tryd.ntmps17
    go_wp2_with fail
    go_ret
    exact ⟨by rw [HT.out]; rfl, rfl⟩
set_option maxRecDepth 100000 in
set_option maxHeartbeats 8000000 in
theorem pickMatches_main (w : World) (p s : ByteArray) (A : Option Addr) (n c : Nat) (l : List ByteArray) (hp : p.size ≤ maxLen) (hm : s.size ≤ maxLen) (hl : l.length = n) (hnc : n ≤ c) (hcm : c ≤ maxLen) (hsl : SlOf w 1 bE A l) :
    Calls Tryd.prog 5 #[.string p, .string s, .slice A n c] w fun e w' => e = .returned (.bool true) ∧ Below w.heap.size w w' := by
  have hnm : n ≤ maxLen := by omega
  unfold maxLen at hp hm hcm
  obtain ⟨k, hk, hmin⟩ : ∃ k : Nat, k ≤ p.size ∧ min (p.size : Int) 14 = k := ⟨min p.size 14, by omega, by omega⟩
  obtain ⟨m, hmk, hmin2⟩ : ∃ m : Nat, m ≤ s.size ∧ min (s.size : Int) 40 = m := ⟨min s.size 40, by omega, by omega⟩
  have hk14 : k ≤ 14 := by omega
  have hm40 : m ≤ 40 := by omega
  have hsp : (p.extract 0 k).size ≤ 14 := by rw [ByteArray.size_extract]; omega
  have hss : (s.extract 0 m).size ≤ 40 := by rw [ByteArray.size_extract]; omega
  obtain ⟨P, hP⟩ : ∃ P, p.extract 0 k = P := ⟨_, rfl⟩
  obtain ⟨S, hS⟩ : ∃ S, s.extract 0 m = S := ⟨_, rfl⟩
  rw [hP] at hsp
  rw [hS] at hss
  have HN := Lib.hid hnm; clear hnm
  have HL := Lib.hid hl; clear hl
  have HSL := Lib.hid hsl; clear hsl
  have HZ := Lib.hid (And.intro hsp hss); clear hsp hss
  have hk1 : (k : Int) ≤ p.size := by omega
  have hm1 : (m : Int) ≤ s.size := by omega
  go_enter Tryd.func5, Tryd.ntmps5
  go_wp2_with fail
  go_region
  have W1 : Below w.heap.size w w.drew := Below.drew (Below.refl _ _)
  have HS0 := Lib.hid (HSL.out.below W1 (Nat.le_refl _)); clear HSL
  generalize w.drew = w0 at *
  clear hk1 hm1 hmin hmin2 hk hmk hP hS
  have hsh := short_any w0 A n c l HL.out HN.out HS0.out
  obtain ⟨b, hb⟩ : ∃ b, shortL l = b := ⟨_, rfl⟩
  rw [hb] at hsh
  have HSH := Lib.hid hsh; clear hsh
  have HB := Lib.hid hb; clear hb
  go_wp2_with fail
  refine HSH.out.mono ?_
  rintro e w1 ⟨rfl, rfl⟩
  cases b with
  | false =>
    go_wp2_with fail
    refine (lives42 _).mono ?_
    rintro e w7 ⟨rfl, hb7⟩
    go_wp2_with fail
    go_ret
    exact ⟨rfl, W1.trans (hb7.mono W1.size)⟩
  | true =>
    have hb4 := (shortL_true HB.out)
    have f1 := fun W => pickRight_any W P (by have := HZ.out.1; omega)
    have f2 := fun W => refPickRight_any W P (by have := HZ.out.1; omega)
    have f3 := fun W => pickPart_any W P S (by have := HZ.out.1; omega) (by have := HZ.out.2; omega)
    have f4 := fun W => refPickPart_any W P S (by have := HZ.out.1; omega) (by have := HZ.out.2; omega)
    have f5 := fun W => pickMatch_any W P S (by have := HZ.out.1; omega) (by have := HZ.out.2; omega)
    have f6 := fun W => refMatch_any W P S (by have := HZ.out.1; omega) (by have := HZ.out.2; omega)
    have f7 := fun W h => pickAny_any W S A n c l HL.out HN.out h (fun x hx => by have := hb4.2 x hx; omega) (by have := HZ.out.2; omega)
    have f8 := fun W h => refAny_any W S A n c l HL.out HN.out h (fun x hx => by have := hb4.2 x hx; omega) (by have := HZ.out.2; omega)
    generalize pRt P = B1 at *
    generalize mat P.data.toList S.data.toList = B2 at *
    generalize mtS P S = B3 at *
    generalize l.any (fun x => mtS x S) = B4 at *
    have hB1 : (B1 == B1) = true := by simp
    have hB2 : (B2 == B2) = true := by simp
    have hB3 : (B3 == B3) = true := by simp
    have hB4 : (B4 == B4) = true := by simp
    have F1 := Lib.hid f1; clear f1
    have F2 := Lib.hid f2; clear f2
    have F3 := Lib.hid f3; clear f3
    have F4 := Lib.hid f4; clear f4
    have F5 := Lib.hid f5; clear f5
    have F6 := Lib.hid f6; clear f6
    have F7 := Lib.hid f7; clear f7
    have F8 := Lib.hid f8; clear f8
    clear hb4 hk14 hm40 HSH
    go_wp2_with fail
    refine (F1.out _).mono ?_
    rintro e x1 ⟨rfl, y1⟩
    go_wp2_with fail
    refine (F2.out _).mono ?_
    rintro e x2 ⟨rfl, y2⟩
    have z2 := y1.trans (y2.mono y1.size)
    go_wp2_with fail
    refine (F3.out _).mono ?_
    rintro e x3 ⟨rfl, y3⟩
    have z3 := z2.trans (y3.mono z2.size)
    go_wp2_with fail
    refine (F4.out _).mono ?_
    rintro e x4 ⟨rfl, y4⟩
    have z4 := z3.trans (y4.mono z3.size)
    go_wp2_with fail
    refine (F5.out _).mono ?_
    rintro e x5 ⟨rfl, y5⟩
    have z5 := z4.trans (y5.mono z4.size)
    go_wp2_with fail
    refine (F6.out _).mono ?_
    rintro e x6 ⟨rfl, y6⟩
    have z6 := z5.trans (y6.mono z5.size)
    go_wp2_with fail
    refine (F7.out _ (HS0.out.below z6 (Nat.le_refl _))).mono ?_
    rintro e x7 ⟨rfl, y7⟩
    have z7 := z6.trans (y7.mono z6.size)
    go_wp2_with fail
    refine (F8.out _ (HS0.out.below z7 (Nat.le_refl _))).mono ?_
    rintro e x8 ⟨rfl, y8⟩
    have z8 := z7.trans (y8.mono z7.size)
    go_wp2_with fail
    refine (lives42 _).mono ?_
    rintro e x9 ⟨rfl, y9⟩
    have z9 := z8.trans (y9.mono z8.size)
    go_wp2_with fail
    go_ret
    exact ⟨rfl, W1.trans (z9.mono W1.size)⟩
set_option maxRecDepth 100000 in
theorem pickMatches_walk : Walks 5 Tryd.f5 := by
  intro H enc W base args ds ps hval hA hlt hsz
  rw [Tryd.params5] at hA hval
  obtain ⟨v0, v1, v2, d0, d1, d2, p0, p1, p2, rfl, rfl, rfl, h0, h1, h2⟩ := trodAll_three hA
  obtain ⟨p, rfl, rfl, rfl, hp⟩ := open_string Tryd.underlying9 (hval 0 9 v0 rfl rfl) h0
  obtain ⟨s, rfl, rfl, rfl, hs⟩ := open_string Tryd.underlying9 (hval 1 9 v1 rfl rfl) h1
  obtain ⟨A, n, c, l, rfl, hnc, hcm, hl, hsl, hv, _⟩ := open_slice_dec (size := 1) bE (fun a => a.size ≤ maxLen) Tryd.underlying26 (by kernel_rfl) (by omega) (fun fuel cs x h => by
    obtain ⟨a, ea, rfl, wa⟩ := DataW.trod_string Tryd.underlying9 h
    exact ⟨a, ea, wa⟩) (hval 2 26 v2 rfl rfl) h2
  exact pickMatches_main W p s A n c l hp hs hl hnc hcm hsl
end Go.Proofs.YtjglkbbhihlcgaaDoor
