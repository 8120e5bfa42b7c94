/- Contracts of the bits behind a symbol, and of how many lengths a symbol is at least. -/
import Derived.Test.YthmlfeaoaanmoaaRows
import Derived.Test.YthmlfeaoaanmoaaKit
set_option linter.unusedVariables false
namespace Sw
def bitsI (sym : Int) : Int := if sym < 0 ∨ 18 < sym then -1 else if sym ≤ 15 then 0 else if sym = 16 then 2 else if sym = 17 then 3 else 7
def leastI (sym : Int) : Int := if sym = 18 then 11 else 3
end Sw
namespace Go.Proofs.Ythmlfeaoaanmoaa
open Go.RowKit
open Sw
theorem bits_any (w : World) (n : Int) :
    Calls Try.prog 34 #[.int .i64 n] w fun e w' => e = .returned (.int .i64 (bitsI n)) ∧ w = w' := by
  have hn : n < 0 ∨ 18 < n ∨ (0 ≤ n ∧ n ≤ 15) ∨ n = 16 ∨ n = 17 ∨ n = 18 := by omega
  rcases hn with h | h | ⟨h, h2⟩ | rfl | rfl | rfl
  · have hb : bitsI n = -1 := by unfold bitsI; rw [if_pos (.inl h)]
    rw [hb]
    go_enter Try.func34, Try.ntmps34
    go_wp2_with fail
    go_ret
    exact ⟨rfl, rfl⟩
  · have hb : bitsI n = -1 := by unfold bitsI; rw [if_pos (.inr h)]
    have h0 : ¬ n < 0 := by omega
    rw [hb]
    go_enter Try.func34, Try.ntmps34
    go_wp2_with fail
    go_ret
    exact ⟨rfl, rfl⟩
  · have hb : bitsI n = 0 := by unfold bitsI; rw [if_neg (by omega), if_pos h2]
    have h0 : ¬ n < 0 := by omega
    have h1 : ¬ 18 < n := by omega
    rw [hb]
    go_enter Try.func34, Try.ntmps34
    go_wp2_with fail
    go_ret
    exact ⟨rfl, rfl⟩
  · go_enter Try.func34, Try.ntmps34
    go_wp2_with fail
    go_ret
    exact ⟨rfl, rfl⟩
  · go_enter Try.func34, Try.ntmps34
    go_wp2_with fail
    go_ret
    exact ⟨rfl, rfl⟩
  · go_enter Try.func34, Try.ntmps34
    go_wp2_with fail
    go_ret
    exact ⟨rfl, rfl⟩
theorem least_any (w : World) (n : Int) :
    Calls Try.prog 60 #[.int .i64 n] w fun e w' => e = .returned (.int .i64 (leastI n)) ∧ w = w' := by
  by_cases h : n = 18
  · subst h
    go_enter Try.func60, Try.ntmps60
    go_wp2_with fail
    go_ret
    exact ⟨rfl, rfl⟩
  · have hl : leastI n = 3 := by unfold leastI; rw [if_neg h]
    have ht : (n == 18) = false := by rw [beq_eq_false_iff_ne]; exact h
    rw [hl]
    go_enter Try.func60, Try.ntmps60
    go_wp2_with fail
    go_ret
    exact ⟨rfl, rfl⟩
set_option maxRecDepth 100000 in
set_option maxHeartbeats 2000000 in
theorem refBits_any (w : World) (n : Int) :
    Calls Try.prog 61 #[.int .i64 n] w fun e w' => e = .returned (.int .i64 (bitsI n)) ∧ Below w.heap.size w w' := by
  by_cases hlo : n < 0
  · have hb : bitsI n = -1 := by unfold bitsI; rw [if_pos (.inl hlo)]
    rw [hb]
    go_enter Try.func61, Try.ntmps61
    go_wp2_with fail
    go_ret
    exact ⟨rfl, Below.refl _ _⟩
  by_cases hhi : 18 < n
  · have hb : bitsI n = -1 := by unfold bitsI; rw [if_pos (.inr hhi)]
    rw [hb]
    go_enter Try.func61, Try.ntmps61
    go_wp2_with fail
    go_ret
    exact ⟨rfl, Below.refl _ _⟩
  obtain ⟨k, rfl⟩ := Int.eq_ofNat_of_zero_le (show 0 ≤ n by omega)
  have hk : k = 0 ∨ k = 1 ∨ k = 2 ∨ k = 3 ∨ k = 4 ∨ k = 5 ∨ k = 6 ∨ k = 7 ∨ k = 8 ∨ k = 9 ∨ k = 10 ∨ k = 11 ∨ k = 12 ∨ k = 13 ∨ k = 14 ∨ k = 15 ∨ k = 16 ∨ k = 17 ∨ k = 18 := by omega
  clear hlo hhi
  rcases hk with rfl | rfl | rfl | rfl | rfl | rfl | rfl | rfl | rfl | rfl | rfl | rfl | rfl | rfl | rfl | rfl | rfl | rfl | rfl
  all_goals
    go_enter Try.func61, Try.ntmps61
    go_wp2_with fail
    go_ret
    exact ⟨rfl, (Below.refl _ _).alloc (Nat.le_refl _) _⟩
end Go.Proofs.Ythmlfeaoaanmoaa
