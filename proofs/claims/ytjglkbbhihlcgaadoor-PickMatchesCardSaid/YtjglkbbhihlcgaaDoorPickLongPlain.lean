/- Plain laws of long patterns. -/
import Derived.Test.YtjglkbbhihlcgaaDoorPickPlain
set_option linter.unusedVariables false
set_option linter.unusedSimpArgs false
namespace Sw
open Go Go.RowKit
def stars : Nat → List UInt8
  | 0 => []
  | n + 1 => 42 :: 97 :: stars n
theorem stars_len : ∀ n, (stars n).length = 2 * n
  | 0 => rfl
  | n + 1 => by rw [stars, List.length_cons, List.length_cons, stars_len n]; omega
theorem stars_snoc : ∀ n, stars n ++ [42, 97] = stars (n + 1)
  | 0 => rfl
  | n + 1 => by
    rw [stars, List.cons_append, List.cons_append, stars_snoc n]
    rfl
theorem stars_take : ∀ (h m : Nat), h ≤ m → (stars m).take (2 * h) = stars h
  | 0, m, _ => by rw [Nat.mul_zero, List.take_zero]; rfl
  | h + 1, 0, e => by omega
  | h + 1, m + 1, e => by
    rw [show 2 * (h + 1) = 2 * h + 1 + 1 by omega, stars, stars, List.take_succ_cons, List.take_succ_cons, stars_take h m (by omega)]
theorem stars_base : ∀ h, MatI (stars h) (List.replicate h 97)
  | 0 => .nil
  | h + 1 => by
    rw [stars, List.replicate_succ]
    exact .star [] (.one (by decide) (.inr rfl) (stars_base h))
theorem stars_mat (h m : Nat) (h1 : 1 ≤ h) (hm : h ≤ m) : mat (stars h) (List.replicate m 97) = true := by
  obtain ⟨h, rfl⟩ : ∃ h', h = h' + 1 := ⟨h - 1, by omega⟩
  have e : List.replicate m (97 : UInt8) = List.replicate (m - (h + 1)) 97 ++ (97 :: List.replicate h 97) := by
    rw [← List.replicate_succ, List.replicate_append_replicate]
    congr 1
    omega
  rw [e]
  exact (mat_iff _ _).2 (.star _ (.one (by decide) (.inr rfl) (stars_base h)))
theorem stars_not (h : Nat) (h1 : 1 ≤ h) (s : List UInt8) : mat (stars h) (s ++ [98]) = false := by
  obtain ⟨h, rfl⟩ : ∃ h', h = h' + 1 := ⟨h - 1, by omega⟩
  rw [← mat_rev, ← stars_snoc, List.reverse_append, List.reverse_append]
  show mat (97 :: 42 :: (stars h).reverse) (98 :: s.reverse) = false
  rw [mat_one_cons (by decide)]
  rfl
end Sw
