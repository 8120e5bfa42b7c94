/- The order of numbers. -/
import Derived.Test.YtpnkgldpmalklaaLift
import Derived.Test.YtpnkgldpmalklaaSrtPlain
set_option linter.unusedVariables false
namespace Sw
def ordI (a b : Int) : Int := if a < b then -1 else if b < a then 1 else 0
def okI (_ : Int) : Prop := True
theorem ordI_zero (a b : Int) (h : ordI a b = 0) : a = b := by
  unfold ordI at h
  split at h
  · omega
  · split at h <;> omega
theorem ordI_neg (a b : Int) : ordI b a = -ordI a b := by
  unfold ordI
  by_cases h1 : a < b
  · rw [if_neg (by omega), if_pos h1, if_pos h1]; rfl
  · by_cases h2 : b < a
    · rw [if_pos h2, if_neg h1, if_pos h2]
    · rw [if_neg h2, if_neg h1, if_neg h1, if_neg h2]; rfl
theorem ordI_lt (a b : Int) : ordI a b < 0 ↔ a < b := by
  unfold ordI
  by_cases h1 : a < b
  · rw [if_pos h1]; omega
  · rw [if_neg h1]
    split <;> omega
theorem ordI_ord : Ord3 ordI := ⟨ordI_zero, ordI_neg, fun a b d h1 h2 => by
  rw [ordI_lt] at *
  omega⟩
end Sw
namespace Go.Proofs.Ytpnkgldpmalklaa
open Go Go.RowKit
open Sw
set_option maxRecDepth 100000 in
theorem orderI_any (w : World) (a b : Int) (_ : okI a) (_ : okI b) :
    Calls Try.prog 13 #[.int .i64 a, .int .i64 b] w fun e w' => e = .returned (.int .i64 (ordI a b)) ∧ Below w.heap.size w w' := by
  unfold ordI
  by_cases h1 : a < b
  · rw [if_pos h1]
    go_enter Try.func13, Try.ntmps13
    go_wp2_with fail
    go_ret
    exact ⟨rfl, Below.refl _ _⟩
  · rw [if_neg h1]
    by_cases h2 : b < a
    · rw [if_pos h2]
      go_enter Try.func13, Try.ntmps13
      go_wp2_with fail
      go_ret
      exact ⟨rfl, Below.refl _ _⟩
    · rw [if_neg h2]
      go_enter Try.func13, Try.ntmps13
      go_wp2_with fail
      go_ret
      exact ⟨rfl, Below.refl _ _⟩
end Go.Proofs.Ytpnkgldpmalklaa
