/- Plain laws of layer 12: days, times and their parts. No program in sight. -/
set_option linter.unusedVariables false
namespace Sw
def leapI (y : Int) : Bool := decide (y % 4 = 0 ∧ y ≠ 2100)
def daysI (y m : Int) : Int :=
  if y < 1980 ∨ 2107 < y ∨ m < 1 ∨ 12 < m then 0 else if m = 2 then (if leapI y = true then 29 else 28) else if m = 4 ∨ m = 6 ∨ m = 9 ∨ m = 11 then 30 else 31
/-- a time's parts -/
structure Dt where
  y : Int
  m : Int
  d : Int
  h : Int
  mi : Int
  s : Int
/-- may these parts be? -/
def Dt.Ok (x : Dt) : Prop := 1 ≤ x.d ∧ x.d ≤ daysI x.y x.m ∧ 0 ≤ x.h ∧ x.h < 24 ∧ 0 ≤ x.mi ∧ x.mi < 60 ∧ 0 ≤ x.s ∧ x.s < 60 ∧ x.s % 2 = 0
instance (x : Dt) : Decidable x.Ok := by unfold Dt.Ok; exact inferInstance
def splitD (t : Int) : Dt := ⟨1980 + t / 33554432, t / 2097152 % 16, t / 65536 % 32, t / 2048 % 32, t / 32 % 64, 2 * (t % 32)⟩
def ofD (x : Dt) : Int := (((((x.y - 1980) * 16 + x.m) * 32 + x.d) * 32 + x.h) * 64 + x.mi) * 32 + x.s / 2
theorem daysI_le (y m : Int) : 0 ≤ daysI y m ∧ daysI y m ≤ 31 := by
  unfold daysI
  split
  · omega
  · split
    · split <;> omega
    · split <;> omega
theorem Dt.Ok.year {x : Dt} (h : x.Ok) : 1980 ≤ x.y ∧ x.y ≤ 2107 ∧ 1 ≤ x.m ∧ x.m ≤ 12 ∧ 1 ≤ x.d ∧ x.d ≤ 31 := by
  unfold Dt.Ok at h
  obtain ⟨h1, h2, _⟩ := h
  have h3 := daysI_le x.y x.m
  have h4 : ¬ (x.y < 1980 ∨ 2107 < x.y ∨ x.m < 1 ∨ 12 < x.m) := by
    intro h4
    unfold daysI at h2
    rw [if_pos h4] at h2
    omega
  omega
theorem ofD_lt {x : Dt} (h : x.Ok) : 0 ≤ ofD x ∧ ofD x < 4294967296 := by
  have hy := h.year
  unfold Dt.Ok at h
  unfold ofD
  omega
theorem splitD_ofD {x : Dt} (h : x.Ok) : splitD (ofD x) = x := by
  have hy := h.year
  unfold Dt.Ok at h
  unfold splitD ofD
  cases x
  simp only [Dt.mk.injEq] at *
  omega
theorem ofD_splitD (t : Int) (h0 : 0 ≤ t) (h1 : t < 4294967296) : ofD (splitD t) = t := by
  unfold splitD ofD
  simp only
  omega
end Sw
