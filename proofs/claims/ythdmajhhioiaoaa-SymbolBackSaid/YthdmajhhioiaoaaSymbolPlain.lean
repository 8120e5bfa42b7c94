/- Plain laws of layer 6: codes of lengths and distances. No program in sight. -/
set_option linter.unusedVariables false
namespace Sw
/-- how many bits stand behind a code of a scale -/
def bitsN (ea pl k : Nat) : Nat := if k < pl then 0 else (k - pl) / ea + 1
/-- the first number of a code -/
def bgN (fr ea pl : Nat) : Nat → Nat
  | 0 => fr
  | k + 1 => bgN fr ea pl k + 2 ^ bitsN ea pl k
/-- the code of a number, from code k on, m codes far -/
def srch (fr ea pl : Nat) (n : Int) : Nat → Nat → Option Nat
  | 0, _ => none
  | m + 1, k => if (bgN fr ea pl k : Int) ≤ n ∧ n < (bgN fr ea pl (k + 1) : Int) then some k else srch fr ea pl n m (k + 1)
theorem bgN_mono (fr ea pl i j : Nat) (h : i ≤ j) : bgN fr ea pl i ≤ bgN fr ea pl j := by
  induction j with
  | zero => have : i = 0 := by omega
            subst this; exact Nat.le_refl _
  | succ j ih =>
    by_cases hij : i = j + 1
    · subst hij; exact Nat.le_refl _
    · have := ih (by omega)
      rw [bgN]
      exact Nat.le_trans this (Nat.le_add_right _ _)
theorem srch_some (fr ea pl : Nat) (n : Int) (m : Nat) : ∀ (k c : Nat), srch fr ea pl n m k = some c → k ≤ c ∧ c < k + m ∧ (bgN fr ea pl c : Int) ≤ n ∧ n < (bgN fr ea pl (c + 1) : Int) := by
  induction m with
  | zero => intro k c h; simp [srch] at h
  | succ m ih =>
    intro k c h
    rw [srch] at h
    split at h
    · rename_i hc
      injection h with h
      subst h
      exact ⟨by omega, by omega, hc⟩
    · have := ih _ _ h
      exact ⟨by omega, by omega, this.2.2⟩
theorem srch_none (fr ea pl : Nat) (n : Int) (m : Nat) : ∀ (k : Nat), srch fr ea pl n m k = none → ∀ c, k ≤ c → c < k + m → ¬ ((bgN fr ea pl c : Int) ≤ n ∧ n < (bgN fr ea pl (c + 1) : Int)) := by
  induction m with
  | zero => intro k h c h1 h2; omega
  | succ m ih =>
    intro k h c h1 h2
    rw [srch] at h
    split at h
    · cases h
    · rename_i hc
      by_cases hk : k = c
      · subst hk; exact hc
      · exact ih _ h c (by omega) (by omega)
theorem srch_at (fr ea pl : Nat) (n : Int) (m : Nat) : ∀ (k c : Nat), k ≤ c → c < k + m → (bgN fr ea pl c : Int) ≤ n → n < (bgN fr ea pl (c + 1) : Int) → srch fr ea pl n m k = some c := by
  induction m with
  | zero => intro k c h1 h2; omega
  | succ m ih =>
    intro k c h1 h2 h3 h4
    rw [srch]
    by_cases hk : k = c
    · subst hk; rw [if_pos ⟨h3, h4⟩]
    · have := bgN_mono fr ea pl (k + 1) c (by omega)
      rw [if_neg (by omega)]
      exact ih (k + 1) c (by omega) (by omega) h3 h4
/-- the two scales -/
def lgBits (k : Nat) : Nat := bitsN 4 8 k
def lgBg (k : Nat) : Nat := bgN 3 4 8 k
def bkBits (k : Nat) : Nat := bitsN 2 4 k
def bkBg (k : Nat) : Nat := bgN 1 2 4 k
/-- a sign: code, bits, more; none: there is none -/
def longS (n : Int) : Option (Nat × Nat × Int) := if n = 258 then some (285, 0, 0) else (srch 3 4 8 n 28 0).map fun k => (k + 257, bitsN 4 8 k, n - (bgN 3 4 8 k : Int))
def backS (n : Int) : Option (Nat × Nat × Int) := (srch 1 2 4 n 30 0).map fun k => (k, bitsN 2 4 k, n - (bgN 1 2 4 k : Int))
/-- the number of a sign of a scale -/
def numN (fr ea pl ma : Nat) (code more : Int) : Option Int :=
  if 0 ≤ code ∧ code < ma ∧ 0 ≤ more ∧ more < ((2 ^ bitsN ea pl code.toNat : Nat) : Int) then some ((bgN fr ea pl code.toNat : Int) + more) else none
/-- a length below the greatest -/
def capL (x : Option Int) : Option Int := x.bind fun n => if 258 ≤ n then none else some n
theorem capL_none : capL none = none := rfl
theorem capL_big (n : Int) (h : 258 ≤ n) : capL (some n) = none := by show (if 258 ≤ n then none else some n) = none; rw [if_pos h]
theorem capL_small (n : Int) (h : n < 258) : capL (some n) = some n := by show (if 258 ≤ n then none else some n) = some n; rw [if_neg (by omega)]
def longOfS (code more : Int) : Option Int :=
  if code = 285 then (if more = 0 then some 258 else none) else if code < 257 then none
  else capL (numN 3 4 8 28 (code - 257) more)
def backOfS (code more : Int) : Option Int := numN 1 2 4 30 code more
def bitsI (ea pl ma : Nat) (code : Int) : Int := if 0 ≤ code ∧ code < ma then (bitsN ea pl code.toNat : Int) else -1
def longBitsS (code : Int) : Int := if code = 285 then 0 else if code < 257 then -1 else bitsI 4 8 28 (code - 257)
def backBitsS (code : Int) : Int := bitsI 2 4 30 code
theorem lg_le (k : Nat) (h : k ≤ 28) : bgN 3 4 8 k ≤ 259 := Nat.le_trans (bgN_mono 3 4 8 k 28 h) (by decide)
theorem bk_le (k : Nat) (h : k ≤ 30) : bgN 1 2 4 k ≤ 32769 := Nat.le_trans (bgN_mono 1 2 4 k 30 h) (by decide)
theorem bits_le (ea pl k : Nat) (hk : k ≤ 30) : bitsN ea pl k ≤ 31 := by
  unfold bitsN
  split
  · omega
  · have := Nat.div_le_self (k - pl) ea
    omega
/-- the reference's table of lengths -/
def TL (i : Nat) : Nat := if i = 28 then 258 else if i = 29 then 259 else bgN 3 4 8 i
def BL (i : Nat) : Nat := if i = 28 then 0 else bitsN 4 8 i
def rsrch (n : Int) : Nat → Nat → Option Nat
  | 0, _ => none
  | m + 1, k => if (TL k : Int) ≤ n ∧ n < (TL (k + 1) : Int) then some k else rsrch n m (k + 1)
def refLongS (n : Int) : Option (Nat × Nat × Int) := (rsrch n 29 0).map fun i => (i + 257, BL i, n - (TL i : Int))
theorem rsrch_some (n : Int) (m : Nat) : ∀ (k c : Nat), rsrch n m k = some c → k ≤ c ∧ c < k + m ∧ (TL c : Int) ≤ n ∧ n < (TL (c + 1) : Int) := by
  induction m with
  | zero => intro k c h; simp [rsrch] at h
  | succ m ih =>
    intro k c h
    rw [rsrch] at h
    split at h
    · rename_i hc
      injection h with h
      subst h
      exact ⟨by omega, by omega, hc⟩
    · have := ih _ _ h
      exact ⟨by omega, by omega, this.2.2⟩
theorem TL_range : ∀ i : Nat, i < 29 → 3 ≤ TL i ∧ TL (i + 1) ≤ 259 := by decide +kernel
def sameSign (a b : Option (Nat × Nat × Int)) : Bool := a == b
theorem refLong_in : ∀ j : Nat, j < 256 → refLongS ((j + 3 : Nat) : Int) = longS ((j + 3 : Nat) : Int) := by decide +kernel
theorem longS_out (n : Int) (h : n < 3 ∨ 258 < n) : longS n = none := by
  rw [longS, if_neg (by omega)]
  cases hs : srch 3 4 8 n 28 0 with
  | none => rfl
  | some k =>
    exfalso
    obtain ⟨_, hk, h1, h2⟩ := srch_some _ _ _ _ _ _ _ hs
    have a := bgN_mono 3 4 8 0 k (by omega)
    have b := lg_le (k + 1) (by omega)
    have c : bgN 3 4 8 0 = 3 := rfl
    omega
theorem refLong_eq (n : Int) : refLongS n = longS n := by
  by_cases h : 3 ≤ n ∧ n ≤ 258
  · obtain ⟨j, rfl⟩ : ∃ j : Nat, n = ((j + 3 : Nat) : Int) := ⟨(n - 3).toNat, by omega⟩
    exact refLong_in j (by omega)
  · rw [longS_out n (by omega), refLongS]
    cases hs : rsrch n 29 0 with
    | none => rfl
    | some k =>
      exfalso
      obtain ⟨_, hk, h1, h2⟩ := rsrch_some _ _ _ _ hs
      have := TL_range k (by omega)
      omega
/-- the parts of a sign, noughts if there is none -/
def sg (x : Option (Nat × Nat × Int)) : Nat × Nat × Int := x.getD (0, 0, 0)
theorem longOf_in : ∀ j : Nat, j < 256 → longOfS (sg (longS ((j + 3 : Nat) : Int))).1 (sg (longS ((j + 3 : Nat) : Int))).2.2 = some ((j + 3 : Nat) : Int) := by decide +kernel
theorem longBits_in : ∀ j : Nat, j < 256 → longBitsS (sg (longS ((j + 3 : Nat) : Int))).1 = ((sg (longS ((j + 3 : Nat) : Int))).2.1 : Int) := by decide +kernel
theorem longBits_has : ∀ k : Nat, k < 29 → (sg (longS ((if k = 28 then 258 else bgN 3 4 8 k : Nat) : Int))).1 = k + 257 := by decide +kernel
theorem lg_range : ∀ k : Nat, k < 28 → 3 ≤ bgN 3 4 8 k ∧ bgN 3 4 8 k ≤ 258 := by decide +kernel
theorem longOf_sound (code more n : Int) (h : longOfS code more = some n) : 3 ≤ n ∧ n ≤ 258 ∧ ((sg (longS n)).1 : Int) = code ∧ (sg (longS n)).2.2 = more := by
  unfold longOfS at h
  by_cases h1 : code = 285
  · rw [if_pos h1] at h
    by_cases h2 : more = 0
    · rw [if_pos h2] at h
      injection h with h
      subst h h1 h2
      exact ⟨by omega, by omega, rfl, rfl⟩
    · rw [if_neg h2] at h; cases h
  · rw [if_neg h1] at h
    by_cases h2 : code < 257
    · rw [if_pos h2] at h; cases h
    · rw [if_neg h2] at h
      unfold numN at h
      by_cases h3 : 0 ≤ code - 257 ∧ code - 257 < (28 : Nat) ∧ 0 ≤ more ∧ more < ((2 ^ bitsN 4 8 (code - 257).toNat : Nat) : Int)
      · rw [if_pos h3] at h
        obtain ⟨k, hk⟩ : ∃ k : Nat, code = (k : Int) + 257 := ⟨(code - 257).toNat, by omega⟩
        subst hk
        have hk28 : k < 28 := by omega
        have e : ((k : Int) + 257 - 257).toNat = k := by omega
        rw [e] at h h3
        have hr := lg_range k hk28
        have hsucc : bgN 3 4 8 (k + 1) = bgN 3 4 8 k + 2 ^ bitsN 4 8 k := rfl
        generalize 2 ^ bitsN 4 8 k = y at h3 hsucc
        by_cases h4 : 258 ≤ (bgN 3 4 8 k : Int) + more
        · rw [capL_big _ h4] at h; cases h
        · rw [capL_small _ (by omega)] at h
          obtain rfl := Option.some.inj h
          clear h
          have hs := srch_at 3 4 8 ((bgN 3 4 8 k : Int) + more) 28 0 k (by omega) (by omega) (by omega) (by omega)
          clear hsucc
          have hgl : ∀ x : Nat, bgN 3 4 8 k = x → longS ((x : Int) + more) = some (k + 257, bitsN 4 8 k, more) := by
            intro x hx
            rw [hx] at hs
            rw [longS, if_neg (by omega), hs, Option.map_some, hx, show (x : Int) + more - (x : Int) = more by omega]
          have hl := hgl _ rfl
          generalize bgN 3 4 8 k = x at *
          rw [hl]
          refine ⟨by omega, by omega, ?_, rfl⟩
          show ((k + 257 : Nat) : Int) = _
          omega
      · rw [if_neg h3] at h; rw [capL_none] at h; cases h
theorem longBits_sound (code : Int) (h : ∀ n : Int, 3 ≤ n → n ≤ 258 → ((sg (longS n)).1 : Int) ≠ code) : longBitsS code = -1 := by
  by_cases hr : 257 ≤ code ∧ code ≤ 285
  · exfalso
    obtain ⟨k, hk⟩ : ∃ k : Nat, code = (k : Int) + 257 := ⟨(code - 257).toNat, by omega⟩
    subst hk
    have h1 := longBits_has k (by omega)
    refine h _ ?_ ?_ (by rw [h1]; omega)
    · split
      · omega
      · have := lg_range k (by omega); omega
    · split
      · omega
      · have := lg_range k (by omega); omega
  · unfold longBitsS
    by_cases h1 : code < 257
    · rw [if_neg (by omega), if_pos h1]
    · rw [if_neg (by omega), if_neg h1, bitsI, if_neg (by omega)]
theorem bk_bits : ∀ i : Nat, i < 30 → max 0 ((i : Int) / 2 - 1) = (bitsN 2 4 i : Int) := by decide +kernel
end Sw
