/- Plain laws of layer 6: there and back, and the next one. No program in sight. -/
import Derived.Test.YthdmajhhioiaoaaSymbolPlain
set_option linter.unusedVariables false
namespace Sw
/-- what is said of a length -/
def LongFact (n : Int) : Prop :=
  ∃ (c b : Nat) (r : Int), longS n = some (c, b, r) ∧ c ≤ 285 ∧ 0 ≤ r ∧ r < ((2 ^ b : Nat) : Int) ∧ b ≤ 5 ∧ longOfS c r = some n ∧ longBitsS c = (b : Int) ∧
    ((n < 258 ∧ ∃ (c' b' : Nat) (r' : Int), longS (n + 1) = some (c', b', r') ∧ c' ≤ 285 ∧ (c' = c ∨ (c' = c + 1 ∧ r' = 0))) ∨ (n = 258 ∧ longS (n + 1) = none))
def longCheck (n : Int) : Bool := match longS n, longS (n + 1) with
  | some (c, b, r), nx => decide (c ≤ 285) && decide (0 ≤ r) && decide (r < ((2 ^ b : Nat) : Int)) && decide (b ≤ 5) && (longOfS c r == some n) && (longBitsS c == (b : Int)) &&
      (match nx with
        | some (c', b', r') => decide (n < 258) && decide (c' ≤ 285) && (decide (c' = c) || (decide (c' = c + 1) && decide (r' = 0)))
        | none => decide (n = 258))
  | none, _ => false
theorem longCheck_all : ∀ j : Nat, j < 256 → longCheck ((j + 3 : Nat) : Int) = true := by decide +kernel
theorem long_fact (n : Int) (h0 : 3 ≤ n) (h1 : n ≤ 258) : LongFact n := by
  have h := longCheck_all (n - 3).toNat (by omega)
  have e : (((n - 3).toNat + 3 : Nat) : Int) = n := by omega
  rw [e] at h
  unfold longCheck at h
  cases hx : longS n with
  | none => rw [hx] at h; cases h
  | some x =>
    obtain ⟨c, b, r⟩ := x
    rw [hx] at h
    simp only [Bool.and_eq_true, decide_eq_true_eq, beq_iff_eq] at h
    obtain ⟨⟨⟨⟨⟨⟨a1, a2⟩, a3⟩, a4⟩, a5⟩, a6⟩, a7⟩ := h
    refine ⟨c, b, r, hx, a1, a2, a3, a4, a5, a6, ?_⟩
    cases hy : longS (n + 1) with
    | none =>
      rw [hy] at a7
      exact .inr ⟨by simpa using a7, rfl⟩
    | some y =>
      obtain ⟨c', b', r'⟩ := y
      rw [hy] at a7
      simp only [Bool.and_eq_true, Bool.or_eq_true, decide_eq_true_eq] at a7
      exact .inl ⟨a7.1.1, c', b', r', rfl, a7.1.2, a7.2⟩
theorem bg_in (fr ea pl : Nat) (n : Int) (m : Nat) (h0 : (bgN fr ea pl 0 : Int) ≤ n) (h1 : n < (bgN fr ea pl m : Int)) : ∃ k, k < m ∧ (bgN fr ea pl k : Int) ≤ n ∧ n < (bgN fr ea pl (k + 1) : Int) := by
  induction m with
  | zero => omega
  | succ m ih =>
    by_cases h : n < (bgN fr ea pl m : Int)
    · obtain ⟨k, hk, hh⟩ := ih h
      exact ⟨k, by omega, hh⟩
    · exact ⟨m, by omega, by omega, h1⟩
theorem bits13 : ∀ k : Nat, k < 30 → bitsN 2 4 k ≤ 13 := by decide
/-- what is said of a distance -/
def BackFact (m : Int) : Prop :=
  ∃ (k b : Nat) (r : Int), backS m = some (k, b, r) ∧ k < 30 ∧ 0 ≤ r ∧ r < ((2 ^ b : Nat) : Int) ∧ b ≤ 13 ∧ backOfS k r = some m ∧ backBitsS k = (b : Int) ∧
    ((m < 32768 ∧ ∃ (k' b' : Nat) (r' : Int), backS (m + 1) = some (k', b', r') ∧ k' < 30 ∧ ((k' = k ∧ r' = r + 1) ∨ (k' = k + 1 ∧ r' = 0))) ∨ (m = 32768 ∧ backS (m + 1) = none))
theorem bg30 : bgN 1 2 4 30 = 32769 := by decide
theorem backS_at (m : Int) (k : Nat) (hk : k < 30) (h0 : (bgN 1 2 4 k : Int) ≤ m) (h1 : m < (bgN 1 2 4 (k + 1) : Int)) : backS m = some (k, bitsN 2 4 k, m - (bgN 1 2 4 k : Int)) := by
  rw [backS, srch_at 1 2 4 m 30 0 k (by omega) (by omega) h0 h1, Option.map_some]
theorem back_fact (m : Int) (h0 : 1 ≤ m) (h1 : m ≤ 32768) : BackFact m := by
  have e30 := bg30
  obtain ⟨k, hk, hl, hu⟩ := bg_in 1 2 4 m 30 (by show (1 : Int) ≤ m; exact h0) (by rw [e30]; omega)
  have hsucc : bgN 1 2 4 (k + 1) = bgN 1 2 4 k + 2 ^ bitsN 2 4 k := rfl
  have hb := backS_at m k hk hl hu
  have hof : backOfS k (m - (bgN 1 2 4 k : Int)) = some m := by
    rw [backOfS, numN, Int.toNat_natCast, if_pos ⟨by omega, by omega, by omega, by omega⟩]
    congr 1
    omega
  have hbb : backBitsS k = (bitsN 2 4 k : Int) := by rw [backBitsS, bitsI, if_pos ⟨by omega, by omega⟩, Int.toNat_natCast]
  refine ⟨k, bitsN 2 4 k, m - (bgN 1 2 4 k : Int), hb, hk, by omega, by omega, bits13 k hk, hof, hbb, ?_⟩
  by_cases hn : m + 1 < (bgN 1 2 4 (k + 1) : Int)
  · have hm : m < 32768 := by
      have := bgN_mono 1 2 4 (k + 1) 30 (by omega)
      omega
    exact .inl ⟨hm, k, bitsN 2 4 k, m + 1 - (bgN 1 2 4 k : Int), backS_at (m + 1) k hk (by omega) hn, hk, .inl ⟨rfl, by omega⟩⟩
  · by_cases hk2 : k + 1 < 30
    · have hs2 : bgN 1 2 4 (k + 1 + 1) = bgN 1 2 4 (k + 1) + 2 ^ bitsN 2 4 (k + 1) := rfl
      have hp : 0 < 2 ^ bitsN 2 4 (k + 1) := Nat.two_pow_pos _
      have hb2 := backS_at (m + 1) (k + 1) hk2 (by omega) (by omega)
      have hm : m < 32768 := by
        have h3 := bgN_mono 1 2 4 (k + 1 + 1) 30 (by omega)
        omega
      exact .inl ⟨hm, k + 1, bitsN 2 4 (k + 1), m + 1 - (bgN 1 2 4 (k + 1) : Int), hb2, hk2, .inr ⟨rfl, by omega⟩⟩
    · have ek : k + 1 = 30 := by omega
      rw [ek, e30] at hn hu
      refine .inr ⟨by omega, ?_⟩
      rw [backS]
      cases hs : srch 1 2 4 (m + 1) 30 0 with
      | none => rfl
      | some c =>
        exfalso
        obtain ⟨_, hc, h3, h4⟩ := srch_some _ _ _ _ _ _ _ hs
        have := bgN_mono 1 2 4 (c + 1) 30 (by omega)
        omega
end Sw
