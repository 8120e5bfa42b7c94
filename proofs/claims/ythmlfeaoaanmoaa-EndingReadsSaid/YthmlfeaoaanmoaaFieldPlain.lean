/- Plain laws of layer 1: numbers as bytes, the lowest byte first. No program in sight. -/
set_option linter.unusedVariables false

namespace Sw
/-- the number of bytes, the lowest first -/
def leN : List UInt8 → Nat
  | [] => 0
  | b :: r => b.toNat + 256 * leN r
theorem leN_lt (l : List UInt8) : leN l < 256 ^ l.length := by
  induction l with
  | nil => simp [leN]
  | cons b r ih =>
    have hb := b.toNat_lt
    simp only [leN, List.length_cons, Nat.pow_succ]
    omega
theorem leN_append (l m : List UInt8) : leN (l ++ m) = leN l + 256 ^ l.length * leN m := by
  induction l with
  | nil => simp [leN]
  | cons b r ih =>
    simp only [leN, List.cons_append, ih, List.length_cons, Nat.pow_succ]
    rw [Nat.mul_add]
    have : 256 * (256 ^ r.length * leN m) = 256 ^ r.length * 256 * leN m := by
      rw [← Nat.mul_assoc, Nat.mul_comm 256]
    omega
/-- the lowest k bytes of a number -/
def putL (n : Nat) : Nat → List UInt8
  | 0 => []
  | k + 1 => UInt8.ofNat (n % 256) :: putL (n / 256) k
theorem putL_length (n k : Nat) : (putL n k).length = k := by
  induction k generalizing n with
  | zero => rfl
  | succ k ih => simp [putL, ih]
theorem putL_snoc (n k : Nat) : putL n (k + 1) = putL n k ++ [UInt8.ofNat (n / 256 ^ k % 256)] := by
  induction k generalizing n with
  | zero => simp [putL]
  | succ k ih =>
    rw [putL, ih (n / 256), putL, List.cons_append, Nat.div_div_eq_div_mul, Nat.pow_succ, Nat.mul_comm 256]
theorem leN_putL (n k : Nat) : leN (putL n k) = n % 256 ^ k := by
  induction k generalizing n with
  | zero => simp [putL, leN, Nat.mod_one]
  | succ k ih =>
    rw [putL, leN, ih]
    have h : (UInt8.ofNat (n % 256)).toNat = n % 256 := by simp
    rw [h, Nat.pow_succ, Nat.mul_comm (256 ^ k) 256, Nat.mod_mul]
end Sw
