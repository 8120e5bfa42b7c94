/- Contracts of field.Get and of the reference's Get: the number of the first bytes of a text. -/
import Derived.Test.YthmlfeaoaanmoaaRows
import Derived.Test.YthmlfeaoaanmoaaFieldPlain
import Derived.WalkKit
import Derived.Outline
import Derived.LoopTactic
import Derived.Lib.Hide
import Derived.WalkSpells
import Derived.WalkLawsBesides
set_option linter.unusedVariables false
namespace Go.Proofs.Ythmlfeaoaanmoaa
open Go.RowKit
open Sw
theorem leN_take_succ (s : ByteArray) (k : Nat) (h : k < s.size) : leN (s.data.toList.take (k + 1)) = leN (s.data.toList.take k) + 256 ^ k * s[k].toNat := by
  rw [List.take_succ_eq_append_getElem (by simpa using h), leN_append]
  have : (s.data.toList.take k).length = k := by rw [List.length_take]; exact Nat.min_eq_left (by simpa using Nat.le_of_lt h)
  rw [this]
  show _ + 256 ^ k * (s.data[k].toNat + 256 * 0) = _
  rw [Nat.mul_zero, Nat.add_zero]; rfl
theorem leN_take_lt (s : ByteArray) (k : Nat) : leN (s.data.toList.take k) < 256 ^ k := by
  refine Nat.lt_of_lt_of_le (leN_lt _) (Nat.pow_le_pow_right (by omega) ?_)
  rw [List.length_take]; exact Nat.min_le_left _ _
/-- what a round of field.Get does to the number -/
theorem get_round (x k : Nat) (b : UInt8) (hx : x < 256 ^ k) (hk : k < 8) :
    bits BinOp.or IntKind.u64 (x : Int) (IntKind.u64.wrap (IntKind.u64.wrap (b.toNat : Int) * 2 ^ (8 * k))) = ((x + 256 ^ k * b.toNat : Nat) : Int) := by
  have hb := b.toNat_lt
  have e : (256 : Nat) ^ k = 2 ^ (8 * k) := by rw [Nat.pow_mul]
  rw [e] at hx ⊢
  have hk' : (2 : Nat) ^ (8 * k) ≤ 2 ^ 56 := Nat.pow_le_pow_right (by omega) (by omega)
  have h1 : IntKind.u64.wrap (b.toNat : Int) = (b.toNat : Int) := IntWalk.u64_in _ (by omega)
  have h2 : (b.toNat : Int) * 2 ^ (8 * k) = ((b.toNat * 2 ^ (8 * k) : Nat) : Int) := by push_cast; rfl
  have h3 : b.toNat * 2 ^ (8 * k) < 2 ^ 64 := by
    calc b.toNat * 2 ^ (8 * k) ≤ 255 * 2 ^ 56 := Nat.mul_le_mul (by omega) hk'
      _ < 2 ^ 64 := by decide
  rw [h1, h2, IntWalk.u64_in _ (by omega)]
  have h4 : x ||| (b.toNat * 2 ^ (8 * k)) = x + 2 ^ (8 * k) * b.toNat := by
    rw [Nat.mul_comm, Nat.or_comm, ← Nat.two_pow_add_eq_or_of_lt hx, Nat.add_comm]
  have hx' : x < 2 ^ 64 := Nat.lt_of_lt_of_le hx (Nat.pow_le_pow_right (by omega) (by omega))
  rw [(bits_nat .u64 64 (by decide) (fun n a b => IntWalk.u64_in n (by omega)) x _ hx' h3).2, h4]
set_option maxHeartbeats 400000 in
theorem fieldGet_yes (s : ByteArray) (n : Nat) (w : World) (hs : s.size ≤ maxLen) (h8 : n ≤ 8) (hl : n ≤ s.size) :
    Calls Try.prog 81 #[.string s, .int .i64 n] w fun e w' => e = .returned (.tuple #[.int .u64 (leN (s.data.toList.take n) : Nat), .bool true]) ∧ w = w' := by
  unfold maxLen at hs
  have d1 : decide (s.size < n) = false := by simp; omega
  go_enter Try.func81, Try.ntmps81
  go_wp2
  go_loop [4, 6, 20] (fun v i t => ∃ k : Nat, k ≤ n ∧ t = .int .i64 k ∧ v = .int .u64 (leN (s.data.toList.take k) : Nat)) (fun _ _ t => n - (intOf t).toNat)
  case atStart => exact ⟨0, Nat.zero_le _, rfl, rfl⟩
  case round =>
    obtain ⟨k, hk, rfl, rfl⟩ := hrel
    by_cases hlt : k < n
    · have HL := Lib.hid (leN_take_succ s k (by omega))
      have HX := Lib.hid (leN_take_lt s k)
      go_wp2
      go_round
      case rel => exact ⟨k + 1, by omega, by go_num, by rw [HL.out, get_round _ _ _ HX.out (by omega)]⟩
      case measure => simp [intOf]; omega
    · go_wp2
      go_ret2
      obtain rfl : k = n := by omega
      exact ⟨rfl, rfl⟩
set_option maxHeartbeats 400000 in
theorem fieldGet_no (s : ByteArray) (n : Int) (w : World) (hs : s.size ≤ maxLen) (h : n < 0 ∨ 8 < n ∨ s.size < n) :
    Calls Try.prog 81 #[.string s, .int .i64 n] w fun e w' => e = .returned (.tuple #[.int .u64 0, .bool false]) ∧ w = w' := by
  unfold maxLen at hs
  by_cases h0 : n < 0
  · go_enter Try.func81, Try.ntmps81
    go_wp2
    go_ret2
    exact ⟨rfl, rfl⟩
  · by_cases h8 : 8 < n
    · go_enter Try.func81, Try.ntmps81
      go_wp2
      go_ret2
      exact ⟨rfl, rfl⟩
    · have hl : (s.size : Int) < n := by omega
      go_enter Try.func81, Try.ntmps81
      go_wp2
      go_ret2
      exact ⟨rfl, rfl⟩
set_option maxHeartbeats 400000 in
theorem refGet_no (s : ByteArray) (n : Int) (w : World) (hs : s.size ≤ maxLen) (h : n < 0 ∨ 8 < n ∨ s.size < n) :
    Calls Try.prog 84 #[.string s, .int .i64 n] w fun e w' => e = .returned (.tuple #[.int .u64 0, .bool false]) ∧ w = w' := by
  unfold maxLen at hs
  by_cases h0 : n < 0
  · go_enter Try.func84, Try.ntmps84
    go_wp2
    go_ret2
    exact ⟨rfl, rfl⟩
  · by_cases h8 : 8 < n
    · go_enter Try.func84, Try.ntmps84
      go_wp2
      go_ret2
      exact ⟨rfl, rfl⟩
    · have hl : (s.size : Int) < n := by omega
      go_enter Try.func84, Try.ntmps84
      go_wp2
      go_ret2
      exact ⟨rfl, rfl⟩
/-- the reference's number from the byte k on -/
theorem leN_drop (s : ByteArray) (n k : Nat) (hk : k < n) (hn : n ≤ s.size) : leN ((s.data.toList.take n).drop k) = s[k].toNat + 256 * leN ((s.data.toList.take n).drop (k + 1)) := by
  have hl : k < (s.data.toList.take n).length := by rw [List.length_take]; simp only [Array.length_toList]; exact Nat.lt_min.2 ⟨hk, Nat.lt_of_lt_of_le hk hn⟩
  rw [List.drop_eq_getElem_cons hl, leN, List.getElem_take]; rfl
theorem leN_drop_lt (s : ByteArray) (n k : Nat) : leN ((s.data.toList.take n).drop k) < 256 ^ (n - k) := by
  refine Nat.lt_of_lt_of_le (leN_lt _) (Nat.pow_le_pow_right (by omega) ?_)
  rw [List.length_drop, List.length_take]
  have := Nat.min_le_left n s.data.toList.length
  omega
theorem refGet_round (x m : Nat) (b : UInt8) (hx : x < 256 ^ m) (hm : m < 8) : IntKind.u64.wrap (IntKind.u64.wrap (256 * (x : Int)) + IntKind.u64.wrap (b.toNat : Int)) = ((b.toNat + 256 * x : Nat) : Int) := by
  have hb := b.toNat_lt
  have h1 : (256 : Nat) ^ m ≤ 256 ^ 7 := Nat.pow_le_pow_right (by omega) (by omega)
  rw [IntWalk.u64_in (256 * (x : Int)) (by omega), IntWalk.u64_in (b.toNat : Int) (by omega), IntWalk.u64_in _ (by omega)]
  omega
set_option maxHeartbeats 400000 in
theorem refGet_yes (s : ByteArray) (n : Nat) (w : World) (hs : s.size ≤ maxLen) (h8 : n ≤ 8) (hl : n ≤ s.size) :
    Calls Try.prog 84 #[.string s, .int .i64 n] w fun e w' => e = .returned (.tuple #[.int .u64 (leN (s.data.toList.take n) : Nat), .bool true]) ∧ w = w' := by
  unfold maxLen at hs
  have d1 : decide (s.size < n) = false := by simp; omega
  go_enter Try.func84, Try.ntmps84
  go_wp2
  go_loop [6, 7] (fun v t => ∃ k : Nat, k ≤ n ∧ t = .int .i64 ((k : Int) - 1) ∧ v = .int .u64 (leN ((s.data.toList.take n).drop k) : Nat)) (fun _ t => (intOf t + 1).toNat)
  case atStart => exact ⟨n, Nat.le_refl _, rfl, by rw [List.drop_eq_nil_of_le (List.length_take_le _ _)]; rfl⟩
  case round =>
    obtain ⟨k, hk, rfl, rfl⟩ := hrel
    by_cases hlt : 1 ≤ k
    · obtain ⟨j, rfl⟩ : ∃ j, k = j + 1 := ⟨k - 1, by omega⟩
      have HL := Lib.hid (leN_drop s n j (by omega) hl)
      have HX := Lib.hid (leN_drop_lt s n (j + 1))
      go_wp2
      refine ⟨⟨j, by omega, rfl, ?_⟩, by simp [intOf]⟩
      rw [HL.out, refGet_round _ (n - (j + 1)) _ HX.out (by omega)]
    · obtain rfl : k = 0 := by omega
      go_wp2
      go_ret2
      exact ⟨by simp, rfl⟩
end Go.Proofs.Ythmlfeaoaanmoaa
