/- Contracts of sum.Table.Step, Begin, End. -/
import Derived.Test.YtpnkgldpmalklaaSumMade
set_option linter.unusedVariables false
namespace Go.Proofs.Ytpnkgldpmalklaa
open Go.RowKit
open Sw
theorem step_index (s b : Nat) (hb : b < 256) : bits .xor .u8 ((s : Int) % 256) (b : Int) = (((s ^^^ b) % 256 : Nat) : Int) := by
  have h := u8_xor_nat (s % 256) b (by omega) hb
  have e : ((s : Int) % 256) = ((s % 256 : Nat) : Int) := by omega
  rw [e, h]
  have hx := Nat.xor_mod_two_pow (a := s) (b := b) (n := 8)
  have hb2 : b % 256 = b := by omega
  have h8 : (2 : Nat) ^ 8 = 256 := rfl
  rw [h8, hb2] at hx
  rw [hx]
theorem step_value (s b : Nat) (hs : s < 4294967296) (hb : b < 256) : bits .xor .u32 ((stpN 8 ((s ^^^ b) % 256) : Nat) : Int) ((s : Int) / 256) = ((byteS s b : Nat) : Int) := by
  have e : ((s : Int) / 256) = ((s / 256 : Nat) : Int) := by omega
  have hl := stpN_lt 8 ((s ^^^ b) % 256) (by have := Nat.mod_lt (s ^^^ b) (show 0 < 256 by omega); omega)
  rw [e, u32_xor_nat _ _ hl (by omega), table_step s b hb]
set_option maxHeartbeats 400000 in
theorem step_any (w : World) (g : Nat) (cs : Array Value) (s b : Nat) (hs : s < 4294967296) (hb : b < 256) (h : Blk w g 149 cs) (ht : IsTab cs) :
    Calls Try.prog 103 #[.pointer (some ⟨g, 0, none⟩), .int .u32 s, .int .u8 b] w fun e w' => e = .returned (.int .u32 (byteS s b : Nat)) ∧ w = w' := by
  have hc : w.cell? ⟨g, (s ^^^ b) % 256, none⟩ = some (.int .u32 (stpN 8 ((s ^^^ b) % 256) : Nat)) := by
    rw [Blk.cell h]
    exact ht.2 _ (Nat.mod_lt _ (by omega))
  have e1 := step_index s b hb
  have e2 := step_value s b hs hb
  have hlt : (s ^^^ b) % 256 < 256 := Nat.mod_lt _ (by omega)
  generalize (s ^^^ b) % 256 = x at hc e1 e2 hlt
  generalize stpN 8 x = y at hc e2
  generalize byteS s b = z at e2 ⊢
  have E2 := Lib.hid e2; clear e2
  go_enter Try.func103, Try.ntmps103
  go_wp2
  go_ret
  rw [← E2.out]
  exact ⟨rfl, rfl⟩
theorem step_nil (w : World) (s b : Int) :
    Calls Try.prog 103 #[.pointer none, .int .u32 s, .int .u8 b] w fun e w' => e = .returned (.int .u32 s) ∧ w = w' := by
  go_enter Try.func103, Try.ntmps103
  go_wp2
  go_ret
  exact ⟨rfl, rfl⟩
theorem begin_any (w : World) : Calls Try.prog 91 #[] w fun e w' => e = .returned (.int .u32 4294967295) ∧ w = w' := by
  go_enter Try.func91, Try.ntmps91
  go_wp2
  go_ret
  exact ⟨rfl, rfl⟩
theorem end_value (s : Nat) (hs : s < 4294967296) : bits .xor .u32 IntKind.u32.max (s : Int) = ((4294967295 - s : Nat) : Int) := by
  have e : IntKind.u32.max = ((4294967295 : Nat) : Int) := by decide
  rw [e, u32_xor_nat 4294967295 s (by omega) hs, not_xor s hs, Nat.xor_comm]
theorem end_any (w : World) (s : Nat) (hs : s < 4294967296) : Calls Try.prog 89 #[.int .u32 s] w fun e w' => e = .returned (.int .u32 (4294967295 - s : Nat)) ∧ w = w' := by
  have hsg : IntKind.u32.signed = false := rfl
  have E := Lib.hid (end_value s hs)
  go_enter Try.func89, Try.ntmps89
  go_wp2
  go_ret
  rw [← E.out]
  exact ⟨rfl, rfl⟩
theorem bit_odd (s : Nat) (hs : s < 4294967296) : bits .xor .u32 ((s : Int) / 2) 3988292384 = (((s / 2) ^^^ poly : Nat) : Int) := by
  have e : ((s : Int) / 2) = ((s / 2 : Nat) : Int) := by omega
  rw [e]
  exact u32_xor_nat (s / 2) 3988292384 (by omega) (by omega)
set_option maxHeartbeats 400000 in
theorem refBit_any (w : World) (s bit : Nat) (hs : s < 4294967296) (hb : bit < 2) :
    Calls Try.prog 108 #[.int .u32 s, .int .u32 bit] w fun e w' => e = .returned (.int .u32 (refBit s bit : Nat)) ∧ w = w' := by
  by_cases ho : (s + bit) % 2 = 1
  · have hr : refBit s bit = (s / 2) ^^^ poly := by rw [refBit, if_pos ho]
    have ht : (((s : Int) + bit) % 2 == 1) = true := by simp; omega
    have HR := Lib.hid hr; clear hr ho
    have EB := Lib.hid (bit_odd s hs)
    go_enter Try.func108, Try.ntmps108
    go_wp2
    go_ret
    rw [HR.out, ← EB.out]
    exact ⟨rfl, rfl⟩
  · have hr : ((refBit s bit : Nat) : Int) = (s : Int) / 2 := by rw [refBit, if_neg ho]; omega
    have ht : (((s : Int) + bit) % 2 == 1) = false := by simp; omega
    have HR := Lib.hid hr; clear hr ho
    go_enter Try.func108, Try.ntmps108
    go_wp2
    go_ret
    rw [HR.out]
    exact ⟨rfl, rfl⟩
theorem refBit_lt (s bit : Nat) (hs : s < 4294967296) : refBit s bit < 4294967296 := by
  have h := refN_lt 1 s bit hs
  have h2 : refN 1 s bit = refBit s (bit % 2) := by simp [refN]
  unfold refBit
  split
  · exact Nat.xor_lt_two_pow (n := 32) (by omega) poly_lt
  · omega
set_option maxHeartbeats 400000 in
theorem refByte_any (w : World) (s b : Nat) (hs : s < 4294967296) (hb : b < 256) :
    Calls Try.prog 99 #[.int .u32 s, .int .u8 b] w fun e w' => e = .returned (.int .u32 (byteS s b : Nat)) ∧ w = w' := by
  go_enter Try.func99, Try.ntmps99
  go_wp2_with fail
  go_loop [0, 5, 6] (fun x n t => ∃ i : Nat, i ≤ 8 ∧ t = .int .i64 i ∧ n = .int .u32 (b / 2 ^ i : Nat) ∧ x = .int .u32 (refN i s b : Nat)) (fun _ _ t => 8 - (intOf t).toNat)
  case atStart => exact ⟨0, Nat.zero_le _, rfl, by simp, rfl⟩
  case round =>
    obtain ⟨i, hi, rfl, rfl, rfl⟩ := hrel
    by_cases hlt : i < 8
    · have hx := refN_lt i s b hs
      have hn : b / 2 ^ i ≤ b := Nat.div_le_self _ _
      have hn1 : b / 2 ^ (i + 1) = b / 2 ^ i / 2 := by rw [Nat.pow_succ, Nat.div_div_eq_div_mul]
      have hr1 : refN (i + 1) s b = refBit (refN i s b) (b / 2 ^ i % 2) := rfl
      have HN := Lib.hid hn1; clear hn1
      have HR := Lib.hid hr1; clear hr1
      generalize b / 2 ^ i = n at *
      generalize refN i s b = x at *
      have e2 : ((n : Int).tmod 2) = ((n % 2 : Nat) : Int) := by rw [Int.tmod_eq_emod_of_nonneg (by omega)]; omega
      have e3 : ((n : Int) % 2) = ((n % 2 : Nat) : Int) := by omega
      have e4 : ((n : Int) / 2) = ((n / 2 : Nat) : Int) := by omega
      have E2 := Lib.hid e2; clear e2
      have E3 := Lib.hid e3; clear e3
      have E4 := Lib.hid e4; clear e4
      go_wp2_with fail
      rw [E3.out]
      refine (refBit_any _ x (n % 2) hx (by omega)).mono ?_
      rintro e w' ⟨rfl, rfl⟩
      go_wp2_with fail
      exact ⟨⟨i + 1, by omega, by go_num, by rw [HN.out, E4.out], by rw [HR.out]⟩, by simp [intOf]; omega⟩
    · obtain rfl : i = 8 := by omega
      have hr := refN_8 s b hb
      have HR := Lib.hid hr; clear hr
      go_wp2_with fail
      go_ret
      rw [← HR.out]
      exact ⟨rfl, rfl⟩
theorem feedS_take (s : Nat) (t : ByteArray) (k : Nat) (h : k < t.size) : feedS s (t.data.toList.take (k + 1)) = byteS (feedS s (t.data.toList.take k)) t[k].toNat := by
  rw [List.take_succ_eq_append_getElem (by simpa using h), feedS_append, feedS_cons]
  show byteS _ t.data[k].toNat = byteS _ t.data[k].toNat
  rfl
set_option maxHeartbeats 400000 in
theorem refFeed_any (w : World) (s : Nat) (t : ByteArray) (hs : s < 4294967296) (ht : t.size ≤ maxLen) :
    Calls Try.prog 83 #[.int .u32 s, .string t] w fun e w' => e = .returned (.int .u32 (feedS s t.data.toList : Nat)) ∧ w = w' := by
  unfold maxLen at ht
  go_enter Try.func83, Try.ntmps83
  go_wp2_with fail
  go_loop [0, 5] (fun x i => ∃ k : Nat, k ≤ t.size ∧ i = .int .i64 k ∧ x = .int .u32 (feedS s (t.data.toList.take k) : Nat)) (fun _ i => t.size - (intOf i).toNat)
  case atStart => exact ⟨0, Nat.zero_le _, rfl, rfl⟩
  case round =>
    obtain ⟨k, hk, rfl, rfl⟩ := hrel
    by_cases hlt : k < t.size
    · have hx := feedS_lt (t.data.toList.take k) s hs
      have HX := Lib.hid (feedS_take s t k hlt)
      have hbt := t[k].toNat_lt
      generalize feedS s (t.data.toList.take k) = x at *
      go_wp2_with (go_at_call 99; refine (refByte_any _ x t[k].toNat hx (by omega)).mono ?_; rintro e w' ⟨rfl, rfl⟩)
      exact ⟨⟨k + 1, by omega, by go_num, by rw [HX.out]⟩, by simp [intOf]; omega⟩
    · obtain rfl : k = t.size := by omega
      have hr : t.data.toList.take t.size = t.data.toList := List.take_of_length_le (by simp)
      have HR := Lib.hid hr; clear hr
      go_wp2_with fail
      go_ret
      rw [HR.out]
      exact ⟨rfl, rfl⟩
theorem ofS_lt (l : List UInt8) : ofS l < 4294967296 := by unfold ofS; omega
theorem refOf_any (w : World) (t : ByteArray) (ht : t.size ≤ maxLen) :
    Calls Try.prog 64 #[.string t] w fun e w' => e = .returned (.int .u32 (ofS t.data.toList : Nat)) ∧ w = w' := by
  have hx := feedS_lt t.data.toList 4294967295 (by omega)
  have ho : ((ofS t.data.toList : Nat) : Int) = 4294967295 - (feedS 4294967295 t.data.toList : Nat) := by unfold ofS; omega
  have HO := Lib.hid ho; clear ho
  go_enter Try.func64, Try.ntmps64
  go_wp2_with (go_at_call 83; refine (refFeed_any _ 4294967295 t (by omega) ht).mono ?_; rintro e w' ⟨rfl, rfl⟩)
  go_ret
  rw [HO.out]
  exact ⟨rfl, rfl⟩
end Go.Proofs.Ytpnkgldpmalklaa
