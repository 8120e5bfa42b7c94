/- Plain laws of layer 2: the sum's steps on numbers. No program in sight. -/
set_option linter.unusedVariables false
namespace Sw
def poly : Nat := 3988292384
/-- one bit's step -/
def stp (x : Nat) : Nat := if x % 2 = 1 then (x / 2) ^^^ poly else x / 2
def stpN : Nat → Nat → Nat
  | 0, x => x
  | k + 1, x => stp (stpN k x)
/-- the state behind a byte -/
@[irreducible] def byteS (s b : Nat) : Nat := stpN 8 (s ^^^ b)
theorem byteS_def (s b : Nat) : byteS s b = stpN 8 (s ^^^ b) := by unfold byteS; rfl
/-- the state behind a text -/
def feedS : Nat → List UInt8 → Nat
  | s, [] => s
  | s, b :: l => feedS (byteS s b.toNat) l
/-- the sum of a text -/
def ofS (l : List UInt8) : Nat := 4294967295 - feedS 4294967295 l
theorem poly_lt : poly < 2 ^ 32 := by decide
theorem stp_lt (x : Nat) (h : x < 2 ^ 32) : stp x < 2 ^ 32 := by
  unfold stp
  split
  · exact Nat.xor_lt_two_pow (by omega) poly_lt
  · omega
theorem stpN_lt (k x : Nat) (h : x < 2 ^ 32) : stpN k x < 2 ^ 32 := by
  induction k with
  | zero => exact h
  | succ k ih => exact stp_lt _ ih
theorem byteS_lt (s b : Nat) (hs : s < 2 ^ 32) (hb : b < 2 ^ 32) : byteS s b < 2 ^ 32 := by rw [byteS_def]; exact stpN_lt _ _ (Nat.xor_lt_two_pow hs hb)
theorem feedS_lt (l : List UInt8) : ∀ (s : Nat), s < 2 ^ 32 → feedS s l < 2 ^ 32 := by
  induction l with
  | nil => intro s h; exact h
  | cons b l ih =>
    intro s h
    have h1 := byteS_lt s b.toNat h (Nat.lt_trans b.toNat_lt (by decide))
    have h2 := ih _ h1
    rw [feedS]
    exact h2
theorem feedS_append (s : Nat) (l m : List UInt8) : feedS s (l ++ m) = feedS (feedS s l) m := by
  induction l generalizing s with
  | nil => rfl
  | cons b l ih => rw [List.cons_append, feedS, ih, feedS]
theorem feedS_cons (s : Nat) (b : UInt8) (m : List UInt8) : feedS s (b :: m) = feedS (byteS s b.toNat) m := by rw [feedS]
theorem xor_mod2 (a b : Nat) : (a ^^^ b) % 2 = (a % 2) ^^^ (b % 2) := by
  have h := Nat.xor_mod_two_pow (a := a) (b := b) (n := 1)
  rw [Nat.pow_one] at h
  exact h
theorem xor_div2 (a b : Nat) : (a ^^^ b) / 2 = (a / 2) ^^^ (b / 2) := by
  have := Nat.shiftRight_xor_distrib (i := 1) (a := a) (b := b)
  simpa [Nat.shiftRight_eq_div_pow] using this
theorem stp_zero : stp 0 = 0 := by decide
theorem stp_xor (a b : Nat) : stp (a ^^^ b) = stp a ^^^ stp b := by
  unfold stp
  rw [xor_mod2, xor_div2]
  have ha : a % 2 = 0 ∨ a % 2 = 1 := by omega
  have hb : b % 2 = 0 ∨ b % 2 = 1 := by omega
  rcases ha with ha | ha <;> rcases hb with hb | hb <;> rw [ha, hb] <;> simp
  · rw [Nat.xor_assoc]
  · rw [Nat.xor_assoc, Nat.xor_assoc, Nat.xor_comm poly (b / 2)]
  · rw [Nat.xor_assoc, ← Nat.xor_assoc poly, Nat.xor_comm poly (b / 2), Nat.xor_assoc, Nat.xor_self, Nat.xor_zero]
theorem stpN_xor (k a b : Nat) : stpN k (a ^^^ b) = stpN k a ^^^ stpN k b := by
  induction k with
  | zero => rfl
  | succ k ih => rw [stpN, stpN, stpN, ih, stp_xor]
theorem stpN_zero (k : Nat) : stpN k 0 = 0 := by
  induction k with
  | zero => rfl
  | succ k ih => rw [stpN, ih, stp_zero]
/-- a number that is a multiple of 2^k is only shifted -/
theorem stpN_shift (k h : Nat) : stpN k (2 ^ k * h) = h := by
  induction k generalizing h with
  | zero => simp [stpN]
  | succ k ih =>
    have e : 2 ^ (k + 1) * h = 2 ^ k * (2 * h) := by rw [Nat.pow_succ, Nat.mul_assoc]
    rw [stpN, e, ih (2 * h)]
    unfold stp
    rw [if_neg (by omega)]
    omega
theorem xor_hi_lo (x : Nat) : (2 ^ 8 * (x / 256)) ^^^ (x % 256) = x := by
  have h := Nat.two_pow_add_eq_or_of_lt (i := 8) (b := x % 256) (by omega) (x / 256)
  have h2 : 2 ^ 8 * (x / 256) ^^^ x % 256 = 2 ^ 8 * (x / 256) + x % 256 := by
    have e := Nat.two_pow_add_eq_or_of_lt (i := 8) (b := x % 256) (by omega) (x / 256)
    rw [e]
    apply Nat.eq_of_testBit_eq
    intro i
    rw [Nat.testBit_xor, Nat.testBit_or, Nat.testBit_two_pow_mul]
    by_cases hi : 8 ≤ i
    · have : (x % 256).testBit i = false := Nat.testBit_lt_two_pow (Nat.lt_of_lt_of_le (Nat.mod_lt x (by omega)) (by
        calc 256 = 2 ^ 8 := rfl
          _ ≤ 2 ^ i := Nat.pow_le_pow_right (by omega) hi))
      simp [this]
    · simp [hi]
  omega
/-- the table's step is the byte's -/
theorem table_step (s b : Nat) (hb : b < 256) : stpN 8 ((s ^^^ b) % 256) ^^^ (s / 256) = byteS s b := by
  have e := xor_hi_lo (s ^^^ b)
  have hd : (s ^^^ b) / 256 = s / 256 := by
    have h := Nat.shiftRight_xor_distrib (i := 8) (a := s) (b := b)
    simp [Nat.shiftRight_eq_div_pow] at h
    have h0 : b / 256 = 0 := by omega
    rw [h, h0, Nat.xor_zero]
  rw [byteS_def, ← e, stpN_xor, stpN_shift, hd, Nat.xor_comm]
  congr 1
  have h2 : ((2 ^ 8 * (s / 256) ^^^ (s ^^^ b) % 256)) % 256 = (s ^^^ b) % 256 := by rw [← hd, e]
  rw [h2]
/-- the reference's bit -/
def refBit (s bit : Nat) : Nat := if (s + bit) % 2 = 1 then (s / 2) ^^^ poly else s / 2
def refN : Nat → Nat → Nat → Nat
  | 0, s, _ => s
  | k + 1, s, b => refBit (refN k s b) (b / 2 ^ k % 2)
theorem stpN_ref (s b k : Nat) : stpN k (s ^^^ b) = refN k s b ^^^ (b / 2 ^ k) := by
  induction k with
  | zero => simp [stpN, refN]
  | succ k ih =>
    rw [stpN, ih, refN]
    generalize refN k s b = x
    have e : b / 2 ^ (k + 1) = b / 2 ^ k / 2 := by rw [Nat.pow_succ, Nat.div_div_eq_div_mul]
    rw [e]
    generalize b / 2 ^ k = y
    unfold stp refBit
    rw [xor_mod2, xor_div2]
    have hx : x % 2 = 0 ∨ x % 2 = 1 := by omega
    have hy : y % 2 = 0 ∨ y % 2 = 1 := by omega
    rcases hx with hx | hx <;> rcases hy with hy | hy <;> rw [hx, hy] <;> simp [Nat.add_mod, hx]
    · rw [Nat.xor_assoc, Nat.xor_assoc, Nat.xor_comm poly]
    · rw [Nat.xor_assoc, Nat.xor_assoc, Nat.xor_comm poly]
theorem refN_8 (s b : Nat) (hb : b < 256) : refN 8 s b = byteS s b := by
  have h := stpN_ref s b 8
  have h0 : b / 2 ^ 8 = 0 := by omega
  rw [h0, Nat.xor_zero] at h
  rw [byteS_def]
  exact h.symm
theorem refN_lt (k s b : Nat) (hs : s < 2 ^ 32) : refN k s b < 2 ^ 32 := by
  induction k with
  | zero => exact hs
  | succ k ih =>
    rw [refN]
    unfold refBit
    split
    · exact Nat.xor_lt_two_pow (by omega) poly_lt
    · omega
theorem not_xor (x : Nat) (h : x < 2 ^ 32) : 4294967295 - x = x ^^^ 4294967295 := by
  have e : 2 ^ 32 - (x + 1) = x ^^^ (2 ^ 32 - 1) := by
    apply Nat.eq_of_testBit_eq
    intro i
    rw [Nat.testBit_two_pow_sub_succ h, Nat.testBit_xor, Nat.testBit_two_pow_sub_one]
    by_cases hi : i < 32
    · simp [hi]
    · have : x.testBit i = false := Nat.testBit_lt_two_pow (Nat.lt_of_lt_of_le h (Nat.pow_le_pow_right (by omega) (by omega)))
      simp [hi, this]
  have e2 : 2 ^ 32 - 1 = 4294967295 := rfl
  rw [e2] at e
  omega
end Sw
