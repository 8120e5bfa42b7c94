/- lz.Match: at level 0, of a text that is too long, and all together. -/
import Derived.Test.YthmlfeaoaanmoaaLzMatch
set_option linter.unusedVariables false
set_option linter.unusedSimpArgs false
namespace Go.Proofs.Ythmlfeaoaanmoaa
open Go Go.RowKit
open Sw
theorem expT_lits : ∀ (l out : List UInt8), out.length + l.length ≤ 65000 → expT (litsT l) out = some (out ++ l)
  | [], out, _ => by simp [litsT, expT_nil]
  | b :: l, out, h => by
    rw [List.length_cons] at h
    have hf : fitsT (litT b) out.length = true := by
      unfold fitsT litT
      simp
      omega
    have hs : stepTk (litT b) out = out ++ [b] := by
      unfold stepTk
      rw [if_pos (show (litT b).long = 0 from rfl), byteT_lit]
    rw [show litsT (b :: l) = litT b :: litsT l from rfl, expT_cons, if_pos hf, hs, expT_lits l (out ++ [b]) (by rw [List.length_append, List.length_singleton]; omega)]
    simp
theorem lits_in (l : List UInt8) : ∀ t ∈ litsT l, TkIn t := by
  intro t ht
  unfold litsT at ht
  obtain ⟨b, _, rfl⟩ := List.mem_map.1 ht
  have := b.toNat_lt
  exact ⟨by unfold litT; simp, by unfold litT; simp only; omega⟩
/-- what Match answers -/
structure MOk (s : ByteArray) (lv : Int) (ts : List Tk) : Prop where
  exp : expT ts [] = some s.data.toList
  len : ts.length ≤ s.size
  tin : ∀ t ∈ ts, TkIn t
  pos : 0 < s.size → 0 < ts.length
  low : lv ≤ 0 → ts = litsT s.data.toList
  one : 1 ≤ lv → Alike s → 2 * ts.length ≤ s.size + 3
set_option maxRecDepth 100000 in
set_option maxHeartbeats 4000000 in
theorem match_low (w : World) (s : ByteArray) (lv : Int) (hs : s.size ≤ 65000) (hl1 : lv ≤ 0) (hl2 : -9223372036854775808 ≤ lv) :
    Calls Try.prog 43 #[.string s, .int .i64 lv] w (TokPost (litsT s.data.toList) w) := by
  have HP := Lib.hid (plain_any w s hs)
  have hl : max 0 (min lv 9) = 0 := by omega
  go_enter Try.func43, Try.ntmps43
  go_wp2_with fail
  refine HP.out.mono ?_
  rintro e w1 ⟨v, rfl, h1, h2⟩
  have HF := Lib.hid (show TokPost (litsT s.data.toList) w (.returned v) w1 from ⟨v, rfl, h1, h2⟩)
  clear h1 h2 HP
  go_wp2_with fail
  go_ret
  exact HF.out
set_option maxRecDepth 100000 in
set_option maxHeartbeats 4000000 in
theorem match_big (w : World) (s : ByteArray) (lv : Int) (hs : s.size ≤ maxLen) (hb : 65000 < s.size) (hl1 : 1 ≤ lv) (hl2 : lv ≤ 9223372036854775807) :
    Calls Try.prog 43 #[.string s, .int .i64 lv] w (TokPost [] w) := by
  have HP := Lib.hid (plain_big w s hs hb)
  obtain ⟨l, hl, hl3, hl4⟩ : ∃ l : Int, max 0 (min lv 9) = l ∧ 1 ≤ l ∧ l ≤ 9 := ⟨max 0 (min lv 9), rfl, by omega, by omega⟩
  have e0 : (l == 0) = false := by rw [beq_eq_false_iff_ne]; omega
  have hbi : (65000 : Int) < s.size := by omega
  unfold maxLen at hs
  have hsi : (s.size : Int) ≤ 9223372036854775807 := by omega
  clear hb hs
  go_enter Try.func43, Try.ntmps43
  go_wp2_with fail
  refine HP.out.mono ?_
  rintro e w1 ⟨v, rfl, h1, h2⟩
  have HF := Lib.hid (show TokPost [] w (.returned v) w1 from ⟨v, rfl, h1, h2⟩)
  clear h1 h2 HP
  go_wp2_with fail
  go_ret
  exact HF.out
theorem match_all (w : World) (s : ByteArray) (lv : Int) (hs : s.size ≤ 65000) (hl : -9223372036854775808 ≤ lv ∧ lv ≤ 9223372036854775807) :
    Calls Try.prog 43 #[.string s, .int .i64 lv] w fun e w' => ∃ v ts, e = .returned v ∧ SlV w' 3 tkC v ts ∧ Below w.heap.size w w' ∧ MOk s lv ts := by
  by_cases h : lv ≤ 0
  · refine (match_low w s lv hs h hl.1).mono ?_
    rintro e w' ⟨v, rfl, h1, h2⟩
    have hlen : (litsT s.data.toList).length = s.size := by simp [litsT]
    refine ⟨v, _, rfl, SlV.of_own h1 tkC_len (by omega), h2, ⟨?_, by omega, lits_in _, by omega, fun _ => rfl, fun h1 => by omega⟩⟩
    have := expT_lits s.data.toList [] (by simp; omega)
    simpa using this
  · refine (match_any w s lv hs (by omega) hl.2).mono ?_
    rintro e w' ⟨v, ts, kn, rfl, h1, h2, h3⟩
    refine ⟨v, ts, rfl, SlV.of_own h1 tkC_len (by omega), h3, ⟨?_, h2.len, h2.tin, h2.pos, fun h' => absurd h' h, fun _ hA => ?_⟩⟩
    · have := h2.exp
      rw [List.take_of_length_le (by simp)] at this
      exact this
    · have := (h2.one hA).2
      omega
end Go.Proofs.Ythmlfeaoaanmoaa
