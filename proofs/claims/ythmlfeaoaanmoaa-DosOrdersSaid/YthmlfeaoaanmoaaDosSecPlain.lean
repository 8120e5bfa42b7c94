/- Plain laws of layer 12: the days and the seconds behind 1980. -/
import Derived.Test.YthmlfeaoaanmoaaDosPlain
set_option linter.unusedVariables false
namespace Sw
/-- the days of a year's first months -/
def monS (y : Int) : Nat → Int
  | 0 => 0
  | k + 1 => monS y k + daysI y ((k : Int) + 1)
/-- the days of the first years -/
def yrS : Nat → Int
  | 0 => 0
  | k + 1 => yrS k + 365 + (if leapI (1980 + (k : Int)) = true then 1 else 0)
theorem monS_12 (k : Nat) (h : k ≤ 127) : monS (1980 + (k : Int)) 12 = 365 + (if leapI (1980 + (k : Int)) = true then 1 else 0) := by
  have hd : ∀ m : Int, ¬ (m < 1 ∨ 12 < m) → daysI (1980 + (k : Int)) m = if m = 2 then (if leapI (1980 + (k : Int)) = true then 29 else 28) else if m = 4 ∨ m = 6 ∨ m = 9 ∨ m = 11 then 30 else 31 := by
    intro m hm
    unfold daysI
    rw [if_neg (by omega)]
  simp only [monS]
  rw [hd _ (by omega), hd _ (by omega), hd _ (by omega), hd _ (by omega), hd _ (by omega), hd _ (by omega), hd _ (by omega), hd _ (by omega), hd _ (by omega), hd _ (by omega), hd _ (by omega), hd _ (by omega)]
  simp
  split <;> omega
theorem monS_bound (y : Int) (k : Nat) : 0 ≤ monS y k ∧ monS y k ≤ 31 * k := by
  induction k with
  | zero => simp [monS]
  | succ k ih =>
    have := daysI_le y ((k : Int) + 1)
    rw [monS]
    omega
theorem yrS_bound (k : Nat) : 365 * k ≤ yrS k ∧ yrS k ≤ 366 * k := by
  induction k with
  | zero => simp [yrS]
  | succ k ih =>
    rw [yrS]
    split <;> omega
theorem yrS_step (k : Nat) (h : k ≤ 127) : yrS (k + 1) = yrS k + monS (1980 + (k : Int)) 12 := by
  rw [monS_12 k h, yrS]; omega
theorem monS_mono (y : Int) (j k : Nat) (h : j ≤ k) : monS y j ≤ monS y k := by
  induction k with
  | zero =>
    have hj : j = 0 := by omega
    subst hj
    exact Int.le_refl _
  | succ k ih =>
    by_cases hj : j = k + 1
    · subst hj; exact Int.le_refl _
    · have := ih (by omega)
      have := daysI_le y ((k : Int) + 1)
      rw [monS]
      omega
theorem yrS_mono (j k : Nat) (h : j ≤ k) : yrS j ≤ yrS k := by
  induction k with
  | zero =>
    have hj : j = 0 := by omega
    subst hj
    exact Int.le_refl _
  | succ k ih =>
    by_cases hj : j = k + 1
    · subst hj; exact Int.le_refl _
    · have := ih (by omega)
      rw [yrS]
      split <;> omega
theorem yrS_128 : yrS 128 = 46751 := by decide +kernel
/-- how many days, seconds behind the first day of 1980 -/
def dayNo (x : Dt) : Int := yrS (x.y - 1980).toNat + monS x.y (x.m - 1).toNat + (x.d - 1)
def secsD (x : Dt) : Int := dayNo x * 86400 + x.h * 3600 + x.mi * 60 + x.s
theorem dayNo_bound {x : Dt} (h : x.Ok) : 0 ≤ dayNo x ∧ dayNo x < 46751 := by
  have hy := h.year
  unfold Dt.Ok at h
  obtain ⟨k, hk⟩ : ∃ k : Nat, x.y = 1980 + (k : Int) := ⟨(x.y - 1980).toNat, by omega⟩
  have hk127 : k ≤ 127 := by omega
  have e1 : (x.y - 1980).toNat = k := by omega
  obtain ⟨m, hm⟩ : ∃ m : Nat, x.m = (m : Int) + 1 := ⟨(x.m - 1).toNat, by omega⟩
  have e2 : (x.m - 1).toNat = m := by omega
  unfold dayNo
  rw [e1, e2]
  have b1 := yrS_bound k
  have b2 := monS_bound x.y m
  have hs : monS x.y (m + 1) = monS x.y m + daysI x.y x.m := by rw [monS, hm]
  have hl := monS_mono x.y (m + 1) 12 (by omega)
  have hstep := yrS_step k hk127
  have hmn := yrS_mono (k + 1) 128 (by omega)
  rw [yrS_128] at hmn
  rw [hk] at hs hl h b2 ⊢
  omega
end Sw
