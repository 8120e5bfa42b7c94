/- The document's example of lz; the walk of LzLongs. -/
import Derived.Test.YthmlfeaoaanmoaaLift
import Derived.Test.YthmlfeaoaanmoaaHeld
import Derived.Test.YthmlfeaoaanmoaaLzShort
import Derived.Test.YthmlfeaoaanmoaaLzExpand
set_option linter.unusedVariables false
set_option linter.unusedSimpArgs false
namespace Sw
open Go Go.RowKit
/-- a block of elements of some cells each, known whole, is a slice of them -/
theorem SlOf.of_blk {w : World} {g size : Nat} {t : TypeId} {cs : Array Value} {α : Type} {E : α → List Value} {l : List α} (h : Blk w g t cs) (hl : cs.toList = l.flatMap E) (hE : ∀ x, (E x).length = size) : SlOf w size E (some ⟨g, 0, none⟩) l :=
  fun hn => ⟨g, 0, rfl, h.lt, fun i hi j hj => by
    rw [h.cell, ← Array.getElem?_toList, hl, Nat.zero_add, flat_get hE l i hi j hj]⟩
end Sw
namespace Go.Proofs.Ythmlfeaoaanmoaa
open Go Go.ChangeShapes Go.WideShapes Go.ChangeAt Go.RowKit
open Go.ChangeMaps (open_string shut_string)
open Sw
theorem exp_ex : expT [⟨97, 0, 0⟩, ⟨0, 3, 1⟩] [] = some [97, 97, 97, 97] := by decide +kernel
set_option maxRecDepth 100000 in
set_option maxHeartbeats 4000000 in
theorem lz_lives (w : World) : Calls Try.prog 42 #[] w fun e w' => e = .returned (.bool true) ∧ Below w.heap.size w w' := by
  have hB := Blk.new w 80 #[.int .u8 97, .int .i64 0, .int .i64 0, .int .u8 0, .int .i64 3, .int .i64 1]
  have hs : SlOf (w.alloc (Obj.cells #[.int .u8 97, .int .i64 0, .int .i64 0, .int .u8 0, .int .i64 3, .int .i64 1] 80)) 3 tkC (some ⟨w.heap.size, 0, none⟩) [⟨97, 0, 0⟩, ⟨0, 3, 1⟩] := SlOf.of_blk hB rfl tkC_len
  have hb0 : Below w.heap.size w (w.alloc (Obj.cells #[.int .u8 97, .int .i64 0, .int .i64 0, .int .u8 0, .int .i64 3, .int .i64 1] 80)) := (Below.refl _ _).alloc (Nat.le_refl _) _
  have hE := expand_any _ _ 2 2 [⟨97, 0, 0⟩, ⟨0, 3, 1⟩] rfl (by unfold maxLen; omega) hs (by
    intro t ht
    simp at ht
    rcases ht with rfl | rfl
    · exact ⟨by decide, by decide⟩
    · exact ⟨by decide, by decide⟩)
  clear hB hs
  have HE := Lib.hid hE; clear hE
  go_enter Try.func42, Try.ntmps42
  go_wp2_with fail
  refine HE.out.mono ?_
  rintro e w1 ⟨hb1, h1⟩
  rw [exp_ex] at h1
  simp only at h1
  subst h1
  have hbw := hb0.trans (hb1.mono hb0.size)
  go_wp2_with fail
  refine (match_a _).mono ?_
  rintro e w2 ⟨v, rfl, ⟨A, c, rfl, _, _, _⟩, hb2⟩
  have hbw2 := hbw.trans (hb2.mono hbw.size)
  go_wp2_with fail
  go_ret
  exact ⟨rfl, hbw2⟩
/-- what two texts of tokens have in common -/
theorem tok_sl {l : List Tk} {w : World} {e : Ending} {w' : World} (h : TokPost l w e w') : ∃ v, e = .returned v ∧ SlV w' 3 tkC v l ∧ Below w.heap.size w w' := by
  obtain ⟨v, h1, h2, h3⟩ := h
  exact ⟨v, h1, SlV.of_own h2 tkC_len (by omega), h3⟩
set_option maxRecDepth 100000 in
set_option maxHeartbeats 4000000 in
theorem lzLongs_main (w : World) (s : ByteArray) (a b : Int) (hm : s.size ≤ maxLen) (ha : -9223372036854775808 ≤ a ∧ a ≤ 9223372036854775807) (hb : -9223372036854775808 ≤ b ∧ b ≤ 9223372036854775807) :
    Calls Try.prog 10 #[.string s, .int .i64 a, .int .i64 b] w fun e w' => e = .returned (.bool true) ∧ Below w.heap.size w w' := by
  unfold maxLen at hm
  obtain ⟨k, hk, hmin⟩ : ∃ k : Nat, k ≤ s.size ∧ min (s.size : Int) 600 = k := ⟨min s.size 600, by omega, by omega⟩
  have hk6 : k ≤ 600 := by omega
  have hsz : (s.extract 0 k).size = k := by rw [ByteArray.size_extract]; omega
  obtain ⟨r, hL1, hL2⟩ : ∃ r : Int, (∀ W, Calls Try.prog 37 #[.string (s.extract 0 k), .int .i64 a, .int .i64 b] W fun e w' => e = .returned (.int .i64 r) ∧ ∃ m, w' = W.drewN m) ∧ (∀ W, Calls Try.prog 38 #[.string (s.extract 0 k), .int .i64 a, .int .i64 b] W fun e w' => e = .returned (.int .i64 r) ∧ ∃ m, w' = W.drewN m) := by
    by_cases h : a < 0 ∨ ((s.extract 0 k).size : Int) < a ∨ b < 1 ∨ a < b
    · exact ⟨0, fun W => long_out W _ a b (by unfold maxLen; omega) h, fun W => refLong_out W _ a b (by unfold maxLen; omega) h⟩
    · obtain ⟨a, rfl⟩ := Int.eq_ofNat_of_zero_le (show 0 ≤ a by omega)
      obtain ⟨b, rfl⟩ := Int.eq_ofNat_of_zero_le (show 0 ≤ b by omega)
      exact ⟨_, fun W => long_in W _ a b (by omega) (by omega) (by omega) (by omega), fun W => refLong_in W _ a b (by omega) (by omega) (by omega) (by omega)⟩
  have hP := fun W => (plain_any W (s.extract 0 k) (by omega)).mono fun e w' h => tok_sl h
  have hQ := fun W => (refBytes_any W (s.extract 0 k) (by omega)).mono fun e w' h => tok_sl h
  have hlen : (litsT (s.extract 0 k).data.toList).length = k := by
    rw [litsT, List.length_map]
    have : (s.extract 0 k).data.toList.length = (s.extract 0 k).size := by simp
    omega
  have HLEN := Lib.hid hlen; clear hlen
  have hrr : (r == r) = true := by simp
  generalize litsT (s.extract 0 k).data.toList = tl at *
  have HL1 := Lib.hid hL1; clear hL1
  have HL2 := Lib.hid hL2; clear hL2
  have HP := Lib.hid hP; clear hP
  have HQ := Lib.hid hQ; clear hQ
  clear hsz ha hb
  go_enter Try.func10, Try.ntmps10
  go_wp2_with fail
  refine (HL1.out _).mono ?_
  rintro e w1 ⟨rfl, m1, rfl⟩
  go_wp2_with fail
  refine (HL2.out _).mono ?_
  rintro e w2 ⟨rfl, m2, rfl⟩
  have hb2 : Below w.heap.size w ((w.drewN m1).drewN m2) := below_drewN (below_drewN (Below.refl _ _) m1) m2
  generalize (w.drewN m1).drewN m2 = w2 at *
  go_wp2_with fail
  refine (HP.out _).mono ?_
  rintro e w3 ⟨v1, rfl, ⟨A1, c1, rfl, hc1, hm1, hs1⟩, hb3⟩
  have hbw3 := hb2.trans (hb3.mono hb2.size)
  go_wp2_with fail
  refine (HQ.out _).mono ?_
  rintro e w4 ⟨v2, rfl, ⟨A2, c2, rfl, hc2, hm2, hs2⟩, hb4⟩
  have hbw4 := hbw3.trans (hb4.mono hbw3.size)
  have hSm := refSame_yes w4 A1 A2 c1 c2 tl.length tl rfl (by have := HLEN.out; omega) (hs1.below hb4 (Nat.le_refl _)) hs2
  have HSM := Lib.hid hSm; clear hSm hs1 hs2
  go_wp2_with fail
  refine HSM.out.mono ?_
  rintro e w5 ⟨rfl, m5, rfl⟩
  have hbw5 := below_drewN hbw4 m5
  generalize w4.drewN m5 = w6 at *
  go_wp2_with fail
  refine (lz_lives _).mono ?_
  rintro e w7 ⟨rfl, hb7⟩
  go_wp2_with fail
  go_ret
  exact ⟨rfl, hbw5.trans (hb7.mono hbw5.size)⟩
set_option maxRecDepth 100000 in
theorem lzLongs_walk : Walks 10 Try.f10 := by
  intro H enc W base args ds ps hval hA hlt hsz
  rw [Try.params10] at hA hval
  obtain ⟨v0, v1, v2, d0, d1, d2, p0, p1, p2, rfl, rfl, rfl, h0, h1, h2⟩ := trodAll_three hA
  obtain ⟨s, rfl, rfl, rfl, hs⟩ := open_string Try.underlying9 (hval 0 9 v0 rfl rfl) h0
  obtain ⟨a, rfl, rfl, rfl, wa⟩ := open_int Try.underlying3 (hval 1 3 v1 rfl rfl) h1
  obtain ⟨b, rfl, rfl, rfl, wb⟩ := open_int Try.underlying3 (hval 2 3 v2 rfl rfl) h2
  exact lzLongs_main W s a b hs (by have := bounds_i64 wa; omega) (by have := bounds_i64 wb; omega)
end Go.Proofs.Ythmlfeaoaanmoaa
