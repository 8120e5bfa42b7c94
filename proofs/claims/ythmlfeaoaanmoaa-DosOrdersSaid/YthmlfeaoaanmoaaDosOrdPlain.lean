/- Plain laws of layer 12: a later time has more seconds. -/
import Derived.Test.YthmlfeaoaanmoaaDosSecPlain
set_option linter.unusedVariables false
namespace Sw
theorem dayNo_lt {x y : Dt} (hx : x.Ok) (hy : y.Ok) (h : x.y < y.y ∨ x.y = y.y ∧ x.m < y.m ∨ x.y = y.y ∧ x.m = y.m ∧ x.d < y.d) : dayNo x < dayNo y := by
  have hxy := hx.year
  have hyy := hy.year
  unfold Dt.Ok at hx hy
  obtain ⟨k, hk⟩ : ∃ k : Nat, x.y = 1980 + (k : Int) := ⟨(x.y - 1980).toNat, by omega⟩
  obtain ⟨l, hl⟩ : ∃ k : Nat, y.y = 1980 + (k : Int) := ⟨(y.y - 1980).toNat, by omega⟩
  obtain ⟨m, hm⟩ : ∃ m : Nat, x.m = (m : Int) + 1 := ⟨(x.m - 1).toNat, by omega⟩
  obtain ⟨j, hj⟩ : ∃ m : Nat, y.m = (m : Int) + 1 := ⟨(y.m - 1).toNat, by omega⟩
  have e1 : (x.y - 1980).toNat = k := by omega
  have e2 : (x.m - 1).toNat = m := by omega
  have e3 : (y.y - 1980).toNat = l := by omega
  have e4 : (y.m - 1).toNat = j := by omega
  unfold dayNo
  rw [e1, e2, e3, e4]
  have hs : monS x.y (m + 1) = monS x.y m + daysI x.y x.m := by rw [monS, hm]
  have hm12 := monS_mono x.y (m + 1) 12 (by omega)
  have hst := yrS_step k (by omega)
  have b2 := monS_bound y.y j
  rw [← hk] at hst
  rcases h with h | ⟨h, h2⟩ | ⟨h, h2, h3⟩
  · have hmn := yrS_mono (k + 1) l (by omega)
    omega
  · have hkl : k = l := by omega
    subst hkl
    rw [h] at hs hx ⊢
    have hmm := monS_mono y.y (m + 1) j (by omega)
    omega
  · have hkl : k = l := by omega
    have hmj : m = j := by omega
    subst hkl
    subst hmj
    rw [h]
    omega
theorem secs_lt {x y : Dt} (hx : x.Ok) (hy : y.Ok) (h : ofD x < ofD y) : secsD x < secsD y := by
  have hx1 := hx.year
  have hy1 := hy.year
  have hx2 := hx
  have hy2 := hy
  unfold Dt.Ok at hx2 hy2
  obtain ⟨_, _, xh0, xh1, xi0, xi1, xs0, xs1, xs2⟩ := hx2
  obtain ⟨_, _, yh0, yh1, yi0, yi1, ys0, ys1, ys2⟩ := hy2
  unfold ofD at h
  unfold secsD
  by_cases hd : x.y < y.y ∨ x.y = y.y ∧ x.m < y.m ∨ x.y = y.y ∧ x.m = y.m ∧ x.d < y.d
  · have := dayNo_lt hx hy hd
    omega
  · have he : x.y = y.y ∧ x.m = y.m ∧ x.d = y.d := by omega
    have hdn : dayNo x = dayNo y := by
      unfold dayNo
      rw [he.1, he.2.1, he.2.2]
    rw [hdn]
    omega
theorem secs_iff {x y : Dt} (hx : x.Ok) (hy : y.Ok) : (ofD x < ofD y ↔ secsD x < secsD y) ∧ (ofD x = ofD y ↔ secsD x = secsD y) := by
  have a := secs_lt hx hy
  have b := secs_lt hy hx
  have c : ofD x = ofD y → secsD x = secsD y := fun h => by
    have e : x = y := by rw [← splitD_ofD hx, ← splitD_ofD hy, h]
    rw [e]
  constructor
  · constructor
    · exact a
    · intro h
      rcases Int.lt_trichotomy (ofD x) (ofD y) with h2 | h2 | h2
      · exact h2
      · have := c h2; omega
      · have := b h2; omega
  · constructor
    · exact c
    · intro h
      rcases Int.lt_trichotomy (ofD x) (ofD y) with h2 | h2 | h2
      · have := a h2; omega
      · exact h2
      · have := b h2; omega
theorem secs_even {x : Dt} (hx : x.Ok) : secsD x % 2 = 0 := by
  unfold Dt.Ok at hx
  unfold secsD
  omega
theorem secs_bound {x : Dt} (hx : x.Ok) : 0 ≤ secsD x ∧ secsD x < 4039286400 := by
  have := dayNo_bound hx
  unfold Dt.Ok at hx
  unfold secsD
  omega
end Sw
