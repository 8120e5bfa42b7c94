/- Contracts of lz.Long and of the reference's Long. -/
import Derived.Test.YthmlfeaoaanmoaaRows
import Derived.Test.YthmlfeaoaanmoaaKit
import Derived.IntWalk
set_option linter.unusedVariables false
set_option linter.unusedSimpArgs false
namespace Sw
/-- for how many bytes, at most f, a text goes on at a as it did k bytes back -/
def lg (s : ByteArray) (k : Nat) : Nat → Nat → Nat
  | _, 0 => 0
  | a, f + 1 => if h : a < s.size then (if s[a] = s[a - k]'(by omega) then lg s k (a + 1) f + 1 else 0) else 0
theorem lg_le (s : ByteArray) (k : Nat) : ∀ (f a : Nat), lg s k a f ≤ f
  | 0, a => by simp [lg]
  | f + 1, a => by
    rw [lg]
    have := lg_le s k f (a + 1)
    split
    · split <;> omega
    · omega
theorem lg_in (s : ByteArray) (k : Nat) : ∀ (f a : Nat), a ≤ s.size → a + lg s k a f ≤ s.size
  | 0, a, h => by simp [lg]; exact h
  | f + 1, a, h => by
    rw [lg]
    split
    · rename_i ha
      have := lg_in s k f (a + 1) (by omega)
      split <;> omega
    · omega
def longI (s : ByteArray) (at_ back : Int) : Int := if at_ < 0 ∨ (s.size : Int) < at_ ∨ back < 1 ∨ at_ < back then 0 else (lg s back.toNat at_.toNat 258 : Nat)
end Sw
namespace Go.Proofs.Ythmlfeaoaanmoaa
open Go.RowKit
open Sw
set_option maxRecDepth 100000 in
set_option maxHeartbeats 4000000 in
theorem long_in (w : World) (s : ByteArray) (a k : Nat) (hs : s.size ≤ 1000000) (h1 : 1 ≤ k) (h2 : k ≤ a) (h3 : a ≤ s.size) :
    Calls Try.prog 37 #[.string s, .int .i64 a, .int .i64 k] w fun e w' => e = .returned (.int .i64 (lg s k a 258 : Nat)) ∧ ∃ m, w' = w.drewN m := by
  have e1 : decide ((a : Int) < 0) = false := by simp
  have e2 : decide ((s.size : Int) < a) = false := by simp; omega
  have e3 : decide ((k : Int) < 1) = false := by simp; omega
  have e4 : decide ((a : Int) < k) = false := by simp; omega
  have e2n : decide (s.size < a) = false := by simp; omega
  have e3n : decide (k < 1) = false := by simp; omega
  have e4n : decide (a < k) = false := by simp; omega
  go_enter Try.func37, Try.ntmps37
  go_wp2_with fail
  go_loopw [7] (fun x wr => ∃ n m : Nat, n ≤ 258 ∧ a + n ≤ s.size ∧ x = .int .i64 n ∧ wr = w.drewN m ∧ lg s k a 258 = n + lg s k (a + n) (258 - n)) (fun x _ => 258 - (intOf x).toNat)
  case atStart => exact ⟨0, 0, by omega, by omega, rfl, rfl, by simp⟩
  case round =>
    obtain ⟨n, m, hn, han, rfl, rfl, hlg⟩ := hrel
    clear e1 e2 e3 e4 e2n e3n e4n
    have q1 : IntKind.i64.wrap ((s.size : Int) - a) = (s.size : Int) - a := IntWalk.i64_in _ (by omega)
    have q2 : IntKind.i64.wrap ((a : Int) + n) = (a : Int) + n := IntWalk.i64_in _ (by omega)
    have q3 : IntKind.i64.wrap ((a : Int) + n - k) = ((a + n - k : Nat) : Int) := by
      rw [show (a : Int) + n - k = ((a + n - k : Nat) : Int) by omega]; exact IntWalk.i64_in _ (by omega)
    have q4 : (0 : Int) ≤ (a : Int) + n := by omega
    have q5 : ((a : Int) + n).toNat = a + n := by omega
    by_cases hf : n < 258
    · have t1 : decide ((n : Int) < 258) = true := by simp; omega
      have t1n : decide (n < 258) = true := by simp; omega
      by_cases hl : a + n < s.size
      · have t2 : decide ((n : Int) < (s.size : Int) - a) = true := by simp; omega
        have q6 : (a : Int) + n < s.size := by omega
        have q7 : a + n - k < s.size := by omega
        have hstep : lg s k (a + n) (258 - n) = if s[a + n] = s[a + n - k] then lg s k (a + n + 1) (258 - n - 1) + 1 else 0 := by
          obtain ⟨f, hf2⟩ : ∃ f, 258 - n = f + 1 := ⟨257 - n, by omega⟩
          rw [hf2, lg, dif_pos hl]; rfl
        by_cases he : s[a + n] = s[a + n - k]
        · have t3 : ((s[a + n].toNat : Int) == s[a + n - k].toNat) = true := by rw [he]; simp
          rw [if_pos he] at hstep
          have hlg2 : lg s k a 258 = (n + 1) + lg s k (a + (n + 1)) (258 - (n + 1)) := by
            rw [show a + (n + 1) = a + n + 1 by omega, show 258 - (n + 1) = 258 - n - 1 by omega]; omega
          have HLG := Lib.hid hlg2; clear hlg2 hlg hstep he
          go_wp2_with fail
          go_quiet (fail)
          go_wp2_with fail
          exact ⟨⟨n + 1, _, by omega, by omega, by go_num, rfl, HLG.out⟩, by simp [intOf]; omega⟩
        · have t3 : ((s[a + n].toNat : Int) == s[a + n - k].toNat) = false := by
            rw [beq_eq_false_iff_ne]; intro h; apply he; apply UInt8.toNat.inj; omega
          rw [if_neg he] at hstep
          have HLG := Lib.hid (show lg s k a 258 = n by omega); clear hlg hstep he
          go_wp2_with fail
          go_quiet (fail)
          go_wp2_with fail
          go_ret
          exact ⟨by rw [HLG.out]; first | done | rfl, _, by first | rfl | rw [World.drewN_drewN]⟩
      · have t2 : decide ((n : Int) < (s.size : Int) - a) = false := by simp; omega
        have hz : lg s k (a + n) (258 - n) = 0 := by
          obtain ⟨f, hf2⟩ : ∃ f, 258 - n = f + 1 := ⟨257 - n, by omega⟩
          rw [hf2, lg, dif_neg hl]
        have HLG := Lib.hid (show lg s k a 258 = n by omega); clear hlg hz hf hl
        go_wp2_with fail
        go_quiet (fail)
        go_wp2_with fail
        go_ret
        exact ⟨by rw [HLG.out]; first | done | rfl, _, by first | rfl | rw [World.drewN_drewN]⟩
    · have hz : n = 258 := by omega
      have t1 : decide ((n : Int) < 258) = false := by simp; omega
      have t1n : decide (n < 258) = false := by simp; omega
      have HLG := Lib.hid (show lg s k a 258 = n by rw [hlg, hz]; simp [lg]); clear hlg hf hz
      go_wp2_with fail
      go_quiet (fail)
      go_wp2_with fail
      go_ret
      exact ⟨by rw [HLG.out]; first | done | rfl, _, by first | rfl | rw [World.drewN_drewN]⟩
set_option maxRecDepth 100000 in
set_option maxHeartbeats 4000000 in
theorem refLong_in (w : World) (s : ByteArray) (a k : Nat) (hs : s.size ≤ 1000000) (h1 : 1 ≤ k) (h2 : k ≤ a) (h3 : a ≤ s.size) :
    Calls Try.prog 38 #[.string s, .int .i64 a, .int .i64 k] w fun e w' => e = .returned (.int .i64 (lg s k a 258 : Nat)) ∧ ∃ m, w' = w.drewN m := by
  have e1 : decide ((a : Int) < 0) = false := by simp
  have e2 : decide ((s.size : Int) < a) = false := by simp; omega
  have e3 : decide ((k : Int) < 1) = false := by simp; omega
  have e4 : decide ((a : Int) < k) = false := by simp; omega
  have e2n : decide (s.size < a) = false := by simp; omega
  have e3n : decide (k < 1) = false := by simp; omega
  have e4n : decide (a < k) = false := by simp; omega
  go_enter Try.func38, Try.ntmps38
  go_wp2_with fail
  go_loopw [6, 7] (fun y x wr => ∃ n m : Nat, n ≤ 258 ∧ a + n ≤ s.size ∧ x = .int .i64 n ∧ y = .int .i64 0 ∧ wr = w.drewN m ∧ lg s k a 258 = n + lg s k (a + n) (258 - n)) (fun _ x _ => 258 - (intOf x).toNat)
  case atStart => exact ⟨0, 0, by omega, by omega, rfl, rfl, rfl, by simp⟩
  case round =>
    obtain ⟨n, m, hn, han, rfl, rfl, rfl, hlg⟩ := hrel
    clear e1 e2 e3 e4 e2n e3n e4n
    have q2 : IntKind.i64.wrap ((a : Int) + n) = (a : Int) + n := IntWalk.i64_in _ (by omega)
    have q3 : IntKind.i64.wrap ((a : Int) + n - k) = ((a + n - k : Nat) : Int) := by
      rw [show (a : Int) + n - k = ((a + n - k : Nat) : Int) by omega]; exact IntWalk.i64_in _ (by omega)
    have q4 : (0 : Int) ≤ (a : Int) + n := by omega
    have q5 : ((a : Int) + n).toNat = a + n := by omega
    by_cases hl : a + n < s.size
    · have t2 : decide ((a : Int) + n < s.size) = true := by simp; omega
      have q6 : (a : Int) + n < s.size := by omega
      have q7 : a + n - k < s.size := by omega
      by_cases hf : n < 258
      · have hstep : lg s k (a + n) (258 - n) = if s[a + n] = s[a + n - k] then lg s k (a + n + 1) (258 - n - 1) + 1 else 0 := by
          obtain ⟨f, hf2⟩ : ∃ f, 258 - n = f + 1 := ⟨257 - n, by omega⟩
          rw [hf2, lg, dif_pos hl]; rfl
        by_cases he : s[a + n] = s[a + n - k]
        · have t3 : ((s[a + n].toNat : Int) != s[a + n - k].toNat) = false := by rw [he]; simp
          rw [if_pos he] at hstep
          have hlg2 : lg s k a 258 = (n + 1) + lg s k (a + (n + 1)) (258 - (n + 1)) := by
            rw [show a + (n + 1) = a + n + 1 by omega, show 258 - (n + 1) = 258 - n - 1 by omega]; omega
          have HLG := Lib.hid hlg2; clear hlg2 hlg hstep he
          go_wp2_with fail
          go_quiet (fail)
          go_wp2_with fail
          exact ⟨⟨n + 1, _, by omega, by omega, by go_num, rfl, rfl, HLG.out⟩, by simp [intOf]; omega⟩
        · have t3 : ((s[a + n].toNat : Int) != s[a + n - k].toNat) = true := by
            rw [bne_iff_ne]; intro h; apply he; apply UInt8.toNat.inj; omega
          rw [if_neg he] at hstep
          have HLG := Lib.hid (show lg s k a 258 = n by omega); clear hlg hstep he
          go_wp2_with fail
          go_quiet (fail)
          go_wp2_with fail
          go_ret
          exact ⟨by rw [HLG.out]; first | done | rfl, _, by first | rfl | rw [World.drewN_drewN]⟩
      · have hz : n = 258 := by omega
        have HLG := Lib.hid (show lg s k a 258 = n by rw [hlg, hz]; simp [lg]); clear hlg hz
        go_wp2_with fail
        go_ret
        exact ⟨by rw [HLG.out]; first | done | rfl, _, by first | rfl | rw [World.drewN_drewN]⟩
    · have hz : lg s k (a + n) (258 - n) = 0 := by
        match hm : 258 - n with
        | 0 => simp [lg]
        | f + 1 => rw [lg, dif_neg hl]
      have q6 : ¬ (a : Int) + n < s.size := by omega
      have HLG := Lib.hid (show lg s k a 258 = n by omega); clear hlg hz hl
      go_wp2_with fail
      go_ret
      exact ⟨by rw [HLG.out]; first | done | rfl, _, by first | rfl | rw [World.drewN_drewN]⟩
set_option maxRecDepth 100000 in
set_option maxHeartbeats 4000000 in
theorem long_out (w : World) (s : ByteArray) (a k : Int) (hs : s.size ≤ maxLen) (h : a < 0 ∨ (s.size : Int) < a ∨ k < 1 ∨ a < k) :
    Calls Try.prog 37 #[.string s, .int .i64 a, .int .i64 k] w fun e w' => e = .returned (.int .i64 0) ∧ ∃ m, w' = w.drewN m := by
  unfold maxLen at hs
  by_cases h0 : a < 0
  · clear h
    go_enter Try.func37, Try.ntmps37
    go_wp2_with fail
    go_ret
    exact ⟨rfl, 0, rfl⟩
  by_cases h1 : (s.size : Int) < a
  · clear h
    go_enter Try.func37, Try.ntmps37
    go_wp2_with fail
    go_ret
    exact ⟨rfl, 0, rfl⟩
  by_cases h2 : k < 1
  · clear h
    go_enter Try.func37, Try.ntmps37
    go_wp2_with fail
    go_ret
    exact ⟨rfl, 0, rfl⟩
  · have h3 : a < k := by omega
    clear h
    go_enter Try.func37, Try.ntmps37
    go_wp2_with fail
    go_ret
    exact ⟨rfl, 0, rfl⟩
set_option maxRecDepth 100000 in
set_option maxHeartbeats 4000000 in
theorem refLong_out (w : World) (s : ByteArray) (a k : Int) (hs : s.size ≤ maxLen) (h : a < 0 ∨ (s.size : Int) < a ∨ k < 1 ∨ a < k) :
    Calls Try.prog 38 #[.string s, .int .i64 a, .int .i64 k] w fun e w' => e = .returned (.int .i64 0) ∧ ∃ m, w' = w.drewN m := by
  unfold maxLen at hs
  by_cases h0 : a < 0
  · clear h
    go_enter Try.func38, Try.ntmps38
    go_wp2_with fail
    go_ret
    exact ⟨rfl, 0, rfl⟩
  by_cases h1 : (s.size : Int) < a
  · clear h
    go_enter Try.func38, Try.ntmps38
    go_wp2_with fail
    go_ret
    exact ⟨rfl, 0, rfl⟩
  by_cases h2 : k < 1
  · clear h
    go_enter Try.func38, Try.ntmps38
    go_wp2_with fail
    go_ret
    exact ⟨rfl, 0, rfl⟩
  · have h3 : a < k := by omega
    clear h
    go_enter Try.func38, Try.ntmps38
    go_wp2_with fail
    go_ret
    exact ⟨rfl, 0, rfl⟩
end Go.Proofs.Ythmlfeaoaanmoaa
