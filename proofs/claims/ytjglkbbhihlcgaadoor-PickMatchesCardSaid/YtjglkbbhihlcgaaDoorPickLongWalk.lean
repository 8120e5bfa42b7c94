/- The walk of PickLong. -/
import Derived.Test.YtjglkbbhihlcgaaDoorPickMatch
import Derived.Test.YtjglkbbhihlcgaaDoorPickLongPlain
import Derived.Test.YtjglkbbhihlcgaaDoorLift
set_option linter.unusedVariables false
set_option linter.unusedSimpArgs false
namespace Sw
open Go Go.RowKit
open Go.Proofs.YtjglkbbhihlcgaaDoor (mtS)
theorem mt1 : mtS ⟨#[97, 47, 42, 42, 47, 42, 46, 116, 120, 116]⟩ ⟨#[97, 47, 120, 46, 116, 120, 116]⟩ = true := by kernel_rfl
theorem mt2 : mtS ⟨#[97, 47, 42, 42, 47, 42, 46, 116, 120, 116]⟩ ⟨#[97, 47, 98, 47, 99, 47, 120, 46, 116, 120, 116]⟩ = true := by kernel_rfl
theorem mt3 : mtS ⟨#[42]⟩ ⟨#[97, 47, 98]⟩ = false := by kernel_rfl
end Sw
namespace Go.Proofs.YtjglkbbhihlcgaaDoor
open Go Go.ChangeShapes Go.WideShapes Go.ChangeAt Go.RowKit
open Go.ChangeMaps (open_string shut_string)
open Sw
set_option maxRecDepth 100000 in
set_option maxHeartbeats 1000000 in
theorem lives42 (w : World) : Calls Tryd.prog 16 #[] w fun e w' => e = .returned (.bool true) ∧ Below w.heap.size w w' := by
  have h1 := fun W => pickMatch_any W ⟨#[97, 47, 42, 42, 47, 42, 46, 116, 120, 116]⟩ ⟨#[97, 47, 120, 46, 116, 120, 116]⟩ (by decide) (by decide)
  have h2 := fun W => pickMatch_any W ⟨#[97, 47, 42, 42, 47, 42, 46, 116, 120, 116]⟩ ⟨#[97, 47, 98, 47, 99, 47, 120, 46, 116, 120, 116]⟩ (by decide) (by decide)
  have h3 := fun W => pickMatch_any W ⟨#[42]⟩ ⟨#[97, 47, 98]⟩ (by decide) (by decide)
  rw [mt1] at h1
  rw [mt2] at h2
  rw [mt3] at h3
  have H1 := Lib.hid h1; clear h1
  have H2 := Lib.hid h2; clear h2
  have H3 := Lib.hid h3; clear h3
  go_enter Tryd.func16, Tryd.ntmps16
  go_wp2_with fail
  refine (H1.out _).mono ?_
  rintro e w1 ⟨rfl, hb1⟩
  go_wp2_with fail
  refine (H2.out _).mono ?_
  rintro e w2 ⟨rfl, hb2⟩
  have z2 := hb1.trans (hb2.mono hb1.size)
  go_wp2_with fail
  refine (H3.out _).mono ?_
  rintro e w3 ⟨rfl, hb3⟩
  go_wp2_with fail
  go_ret
  exact ⟨rfl, z2.trans (hb3.mono z2.size)⟩
/-- texts that are too long -/
theorem pickPart_big (w : World) (p s : ByteArray) (h : 200 < s.size) :
    Calls Tryd.prog 15 #[.string p, .string s] w fun e w' => e = .returned (.bool false) ∧ Below w.heap.size w w' := by
  have hI : (200 : Int) < s.size := by omega
  by_cases hp : (p.size : Int) ≤ 200
  · clear h
    go_enter Tryd.func15, Tryd.ntmps15
    go_wp2_with fail
    go_ret
    exact ⟨rfl, Below.refl _ _⟩
  · have hp2 : (200 : Int) < p.size := by omega
    clear h hp
    go_enter Tryd.func15, Tryd.ntmps15
    go_wp2_with fail
    go_ret
    exact ⟨rfl, Below.refl _ _⟩
theorem mkB_app (a b : List UInt8) : mkB a ++ (⟨b.toArray⟩ : ByteArray) = mkB (a ++ b) := by
  apply ByteArray.ext
  simp [mkB, ByteArray.data_append]
set_option maxRecDepth 100000 in
set_option maxHeartbeats 4000000 in
theorem pickLong_main (w : World) (n : Int) (hn : 0 ≤ n ∧ n ≤ 18446744073709551615) :
    Calls Tryd.prog 4 #[.int .u64 n] w fun e w' => e = .returned (.bool true) ∧ Below w.heap.size w w' := by
  obtain ⟨h, hh⟩ : ∃ h : Nat, 190 + 2 * (n % 10) = ((2 * h : Nat) : Int) := ⟨(95 + n % 10).toNat, by omega⟩
  obtain ⟨k, hk⟩ : ∃ k : Nat, 2 * h = k := ⟨_, rfl⟩
  have hh2 : 190 + 2 * (n % 10) = (k : Int) := by rw [hh, hk]
  have hk1 : 190 ≤ k := by omega
  have hk2 : k ≤ 208 := by omega
  have HK := Lib.hid hk; clear hk hh
  go_enter Tryd.func4, Tryd.ntmps4
  go_wp2_with fail
  clear hh2
  go_loopw [4, 5] (fun p s wr => ∃ i : Nat, i ≤ k ∧ p = .string (mkB (stars i)) ∧ s = .string (mkB (List.replicate i 97)) ∧ w = wr) (fun _ s _ => k - (match s with | .string x => x.size | _ => 0))
  case atStart => exact ⟨0, Nat.zero_le _, rfl, rfl, rfl⟩
  case round =>
    obtain ⟨i, hi, rfl, rfl, rfl⟩ := hrel
    have hs1 : (mkB (stars i)).size = 2 * i := by rw [mkB_size, stars_len]
    have hs2 : (mkB (List.replicate i 97)).size = i := by rw [mkB_size, List.length_replicate]
    by_cases hlt : i < k
    · have hltI : (i : Int) < k := by omega
      have e1 : mkB (stars i) ++ (⟨#[42, 97]⟩ : ByteArray) = mkB (stars (i + 1)) := by rw [← stars_snoc]; exact mkB_app _ [42, 97]
      have e2 : mkB (List.replicate i 97) ++ (⟨#[97]⟩ : ByteArray) = mkB (List.replicate (i + 1) 97) := by rw [List.replicate_succ']; exact mkB_app _ [97]
      have HE := Lib.hid (And.intro e1 e2); clear e1 e2
      have HS2 := Lib.hid hs2
      generalize mkB (stars i) = X at *
      generalize mkB (List.replicate i 97) = Y at *
      go_wp2_with fail
      go_roundw
      case rel => exact ⟨i + 1, by omega, by rw [HE.out.1], by rw [HE.out.2], by simp⟩
      case measure =>
        have := HS2.out
        show k - (Y ++ _).size < k - Y.size
        rw [ByteArray.size_append, this]
        have h1 : (⟨#[97]⟩ : ByteArray).size = 1 := rfl
        omega
    · obtain rfl : i = k := by omega
      clear hlt
      have hh : 2 * h = i := HK.out
      have hz : (mkB (stars h)).size = i := by rw [mkB_size, stars_len]; exact hh
      have e3 : (mkB (stars i)).extract 0 i = mkB (stars h) := by
        have h1 := ext_take (mkB (stars i)) i
        rw [data_mkB] at h1
        have h2 : (stars i).take i = stars h := by
          have := stars_take h i (by omega)
          rw [hh] at this
          exact this
        rw [h2] at h1
        rw [← mkB_data ((mkB (stars i)).extract 0 i), h1]
      have e4 : mkB (List.replicate i 97) ++ (⟨#[98]⟩ : ByteArray) = mkB (List.replicate i 97 ++ [98]) := mkB_app _ [98]
      have ht : (mkB (List.replicate i 97 ++ [98])).size = i + 1 := by rw [mkB_size, List.length_append, List.length_replicate]; rfl
      have F1 : ∀ W, Calls Tryd.prog 15 #[.string (mkB (stars h)), .string (mkB (List.replicate i 97))] W fun e w' => e = .returned (.bool (decide (i ≤ 200))) ∧ Below W.heap.size W w' := fun W => by
        by_cases h2 : i ≤ 200
        · have := pickPart_any W (mkB (stars h)) (mkB (List.replicate i 97)) (by omega) (by omega)
          rw [data_mkB, data_mkB, stars_mat h i (by omega) (by omega)] at this
          rw [decide_eq_true h2]
          exact this
        · rw [decide_eq_false h2]
          exact pickPart_big W _ _ (by omega)
      have F2 : ∀ W, Calls Tryd.prog 15 #[.string (mkB (stars h)), .string (mkB (List.replicate i 97 ++ [98]))] W fun e w' => e = .returned (.bool false) ∧ Below W.heap.size W w' := fun W => by
        by_cases h2 : i + 1 ≤ 200
        · have := pickPart_any W (mkB (stars h)) (mkB (List.replicate i 97 ++ [98])) (by omega) (by omega)
          rw [data_mkB, data_mkB, stars_not h (by omega)] at this
          exact this
        · exact pickPart_big W _ _ (by omega)
      generalize mkB (stars i) = X at *
      generalize mkB (List.replicate i 97) = Y at *
      generalize mkB (List.replicate i 97 ++ [98]) = T at *
      generalize mkB (stars h) = Z at *
      have H1 := Lib.hid F1; clear F1
      have H2 := Lib.hid F2; clear F2
      have hmin : min (2 * (i : Int)) i = i := by omega
      have hle : (i : Int) ≤ 2 * (i : Int) := by omega
      clear hh hz ht hn
      go_wp2_with fail
      refine (H1.out _).mono ?_
      rintro e w1 ⟨rfl, hb1⟩
      by_cases h2 : i ≤ 200
      · have hI : (i : Int) ≤ 200 := by omega
        rw [decide_eq_true h2]
        clear h2
        go_wp2_with fail
        refine (H2.out _).mono ?_
        rintro e w2 ⟨rfl, hb2⟩
        have z2 := hb1.trans (hb2.mono hb1.size)
        go_wp2_with fail
        refine (lives42 _).mono ?_
        rintro e w3 ⟨rfl, hb3⟩
        go_wp2_with fail
        go_ret
        exact ⟨rfl, z2.trans (hb3.mono z2.size)⟩
      · have HD := Lib.hid (show decide ((i : Int) ≤ 200) = false from decide_eq_false (by omega))
        have hI : ¬ (i : Int) ≤ 200 := by omega
        rw [decide_eq_false h2]
        clear h2
        go_wp2_with fail
        refine (H2.out _).mono ?_
        rintro e w2 ⟨rfl, hb2⟩
        have z2 := hb1.trans (hb2.mono hb1.size)
        go_wp2_with fail
        refine (lives42 _).mono ?_
        rintro e w3 ⟨rfl, hb3⟩
        go_wp2_with fail
        go_ret
        exact ⟨by rw [HD.out]; first | done | rfl, z2.trans (hb3.mono z2.size)⟩
set_option maxRecDepth 100000 in
theorem pickLong_walk : Walks 4 Tryd.f4 := by
  intro H enc W base args ds ps hval hA hlt hsz
  rw [Tryd.params4] at hA hval
  obtain ⟨v0, d0, rfl, rfl, h0⟩ := trodAll_one hA
  obtain ⟨b, rfl, rfl, rfl, wb⟩ := open_int Tryd.underlying28 (hval 0 28 v0 rfl rfl) h0
  exact pickLong_main W b (by have := bounds_u64 wb; omega)
end Go.Proofs.YtjglkbbhihlcgaaDoor
