/- The walk of EndingReads. -/
import Derived.Test.YthmlfeaoaanmoaaLift
import Derived.Test.YthmlfeaoaanmoaaEndLives
set_option linter.unusedVariables false
set_option linter.unusedSimpArgs false
namespace Go.Proofs.Ythmlfeaoaanmoaa
open Go.ChangeShapes Go.WideShapes Go.ChangeAt Go.RowKit
open Go.ChangeMaps (open_string shut_string)
open Sw
theorem eq_endE (a b c d : Int) (W : World) : (binOp .eql 87 (.agg #[.int .i64 a, .int .i64 b, .int .i64 c, .int .i64 d]) (.agg #[.int .i64 a, .int .i64 b, .int .i64 c, .int .i64 d])).run Try.prog W = .ok (.bool true) W := by
  simp [go_sem, Try.underlying87, Try.underlying3]
theorem endW_form (t : ByteArray) : ∃ (a b c d : Int) (x : Bool), endW t = .tuple #[.agg #[.int .i64 a, .int .i64 b, .int .i64 c, .int .i64 d], .bool x] := by
  unfold endW
  split
  · exact ⟨_, _, _, _, _, rfl⟩
  · exact ⟨_, _, _, _, _, rfl⟩
theorem both_reads (s : ByteArray) (at_ : Int) (hs : s.size ≤ maxLen) : ∃ (a b c d : Int) (x : Bool),
    (∀ W, Calls Try.prog 48 #[.string s, .int .i64 at_] W fun e w' => e = .returned (.tuple #[.agg #[.int .i64 a, .int .i64 b, .int .i64 c, .int .i64 d], .bool x]) ∧ Below W.heap.size W w') ∧
    (∀ W, Calls Try.prog 49 #[.string s, .int .i64 at_] W fun e w' => e = .returned (.tuple #[.agg #[.int .i64 a, .int .i64 b, .int .i64 c, .int .i64 d], .bool x]) ∧ Below W.heap.size W w') := by
  by_cases ho : at_ < 0 ∨ (s.size : Int) < at_
  · exact ⟨0, 0, 0, 0, false, fun W => endRead_out s at_ W hs ho, fun W => refRead_out s at_ W hs (by omega)⟩
  · obtain ⟨k, rfl⟩ := Int.eq_ofNat_of_zero_le (show 0 ≤ at_ by omega)
    have hk : k ≤ s.size := by omega
    by_cases h22 : k + 22 ≤ s.size
    · obtain ⟨a, b, c, d, x, he⟩ := endW_form (s.extract k s.size)
      refine ⟨a, b, c, d, x, fun W => ?_, fun W => ?_⟩
      · rw [← he, ← end_eq (s.extract k s.size) (by rw [ext_size s k hk]; omega)]
        exact endRead_in s k W hs hk
      · rw [← he]
        exact refRead_in s k W hs h22
    · refine ⟨0, 0, 0, 0, false, fun W => ?_, fun W => refRead_out s k W hs (by omega)⟩
      have h := endRead_in s k W hs hk
      have hz : endV (s.extract k s.size) = .tuple #[.agg #[.int .i64 0, .int .i64 0, .int .i64 0, .int .i64 0], .bool false] := by
        unfold endV
        rw [ok_short (s.extract k s.size) (by rw [ext_size s k hk]; omega)]; rfl
      rw [hz] at h
      exact h
theorem findC_form (s : ByteArray) : ∃ a b c d : Int, findC s = #[.int .i64 a, .int .i64 b, .int .i64 c, .int .i64 d] := by
  unfold findC
  split
  · exact ⟨_, _, _, _, rfl⟩
  · exact ⟨_, _, _, _, rfl⟩
set_option maxRecDepth 100000 in
set_option maxHeartbeats 4000000 in
theorem endReads_walk (s : ByteArray) (at_ : Int) (w : World) (hs : s.size ≤ maxLen) :
    Calls Try.prog 14 #[.string s, .int .i64 at_] w fun e w' => e = .returned (.bool true) ∧ Below w.heap.size w w' := by
  obtain ⟨N, hN⟩ : ∃ N : Nat, min (s.size : Int) 400 = (N : Int) := ⟨(min (s.size : Int) 400).toNat, by omega⟩
  have hNs : N ≤ s.size := by omega
  have HNs := Lib.hid hs
  unfold maxLen at hs
  go_enter Try.func14, Try.ntmps14
  go_wp2_with fail
  have hsz : (s.extract 0 N).size ≤ 400 := by simp [ByteArray.size_extract]; omega
  generalize s.extract 0 N = s' at *
  clear hN hNs HNs hs
  obtain ⟨a, b, c, d, x, hr, hq⟩ := both_reads s' at_ (by unfold maxLen; omega)
  obtain ⟨a', b', c', d', hc⟩ := findC_form s'
  have hf := fun W => endFind_any s' W hsz
  have hg := fun W => refFind_any s' W hsz
  rw [hc] at hf hg
  generalize findN s' = n at *
  generalize findB s' = y at *
  have HR := Lib.hid (And.intro hr (And.intro hq (And.intro hf hg))); clear hr hq hf hg hc
  have heq := eq_endE a b c d
  have heq2 := eq_endE a' b' c' d'
  refine (HR.out.1 _).mono ?_
  rintro e w1 ⟨rfl, h1⟩
  go_wp2_with fail
  have b1 := Blk.new w1 84 #[.int .i64 a, .int .i64 b, .int .i64 c, .int .i64 d]
  have hB1 := h1.alloc h1.size (.cells #[.int .i64 a, .int .i64 b, .int .i64 c, .int .i64 d] 84)
  obtain ⟨X1, hX1⟩ : ∃ X, X = w1.heap.size := ⟨_, rfl⟩
  rw [← hX1] at b1 ⊢
  generalize w1.alloc (.cells #[.int .i64 a, .int .i64 b, .int .i64 c, .int .i64 d] 84) = W1 at *
  clear h1 hX1 w1
  refine (HR.out.2.1 _).mono ?_
  rintro e w2 ⟨rfl, h2⟩
  replace b1 := b1.below h2 b1.lt
  replace hB1 := hB1.trans (h2.mono hB1.size)
  clear h2 W1
  go_wp2_with fail
  have b2 := Blk.new w2 87 #[.int .i64 a, .int .i64 b, .int .i64 c, .int .i64 d]
  replace b1 := b1.alloc (.cells #[.int .i64 a, .int .i64 b, .int .i64 c, .int .i64 d] 87)
  replace hB1 := hB1.alloc hB1.size (.cells #[.int .i64 a, .int .i64 b, .int .i64 c, .int .i64 d] 87)
  obtain ⟨X2, hX2⟩ : ∃ X, X = w2.heap.size := ⟨_, rfl⟩
  rw [← hX2] at b2 ⊢
  generalize w2.alloc (.cells #[.int .i64 a, .int .i64 b, .int .i64 c, .int .i64 d] 87) = W2 at *
  clear hX2 w2
  refine (HR.out.2.2.1 _).mono ?_
  rintro e w3 ⟨rfl, h3⟩
  replace b1 := b1.below h3 b1.lt
  replace b2 := b2.below h3 b2.lt
  replace hB1 := hB1.trans (h3.mono hB1.size)
  clear h3 W2
  go_wp2_with fail
  have b3 := Blk.new w3 84 #[.int .i64 a', .int .i64 b', .int .i64 c', .int .i64 d']
  replace b1 := b1.alloc (.cells #[.int .i64 a', .int .i64 b', .int .i64 c', .int .i64 d'] 84)
  replace b2 := b2.alloc (.cells #[.int .i64 a', .int .i64 b', .int .i64 c', .int .i64 d'] 84)
  replace hB1 := hB1.alloc hB1.size (.cells #[.int .i64 a', .int .i64 b', .int .i64 c', .int .i64 d'] 84)
  obtain ⟨X3, hX3⟩ : ∃ X, X = w3.heap.size := ⟨_, rfl⟩
  rw [← hX3] at b3 ⊢
  generalize w3.alloc (.cells #[.int .i64 a', .int .i64 b', .int .i64 c', .int .i64 d'] 84) = W3 at *
  clear hX3 w3
  refine (HR.out.2.2.2 _).mono ?_
  rintro e w4 ⟨rfl, h4⟩
  replace b1 := b1.below h4 b1.lt
  replace b2 := b2.below h4 b2.lt
  replace b3 := b3.below h4 b3.lt
  replace hB1 := hB1.trans (h4.mono hB1.size)
  clear h4 W3
  replace b1 := b1.alloc (.cells #[.int .i64 a', .int .i64 b', .int .i64 c', .int .i64 d'] 87)
  replace b2 := b2.alloc (.cells #[.int .i64 a', .int .i64 b', .int .i64 c', .int .i64 d'] 87)
  replace b3 := b3.alloc (.cells #[.int .i64 a', .int .i64 b', .int .i64 c', .int .i64 d'] 87)
  have HB := Lib.hid (hB1.alloc hB1.size (.cells #[.int .i64 a', .int .i64 b', .int .i64 c', .int .i64 d'] 87)); clear hB1
  have c10 := b1.cell 0
  have c11 := b1.cell 1
  have c12 := b1.cell 2
  have c13 := b1.cell 3
  have c20 := b2.cell 0
  have c21 := b2.cell 1
  have c22 := b2.cell 2
  have c23 := b2.cell 3
  have c30 := b3.cell 0
  have c31 := b3.cell 1
  have c32 := b3.cell 2
  have c33 := b3.cell 3
  simp at c10 c11 c12 c13 c20 c21 c22 c23 c30 c31 c32 c33
  clear b1 b2 b3
  have hl := fun W => end_lives W
  have HL := Lib.hid hl; clear hl
  go_wp2_with fail
  refine (HL.out _).mono ?_
  rintro e w5 ⟨rfl, h5⟩
  have HF := Lib.hid (HB.out.trans (h5.mono HB.out.size)); clear h5
  go_wp2_with fail
  go_ret
  exact ⟨rfl, HF.out⟩
set_option maxRecDepth 100000 in
theorem endingReads_walk : Walks 14 Try.f14 := by
  intro H enc W base args ds ps hval hA hlt hsz
  rw [Try.params14] at hA hval
  obtain ⟨v0, v1, d0, d1, p0, p1, rfl, rfl, rfl, h0, h1⟩ := trodAll_two hA
  obtain ⟨s, rfl, rfl, rfl, hs⟩ := open_string Try.underlying9 (hval 0 9 v0 rfl rfl) h0
  obtain ⟨n, rfl, rfl, rfl, wn⟩ := open_int Try.underlying3 (hval 1 3 v1 rfl rfl) h1
  exact endReads_walk s n W hs
end Go.Proofs.Ythmlfeaoaanmoaa
