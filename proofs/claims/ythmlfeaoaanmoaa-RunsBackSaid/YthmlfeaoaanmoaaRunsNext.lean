/- Contracts of runs.next's inner function, and of next. -/
import Derived.Test.YthmlfeaoaanmoaaRunsStep
import Derived.Test.YthmlfeaoaanmoaaOpen
set_option linter.unusedVariables false
namespace Sw
/-- how many lengths at a row's beginning are k -/
def cntRun (k : Int) : List Int → Nat
  | [] => 0
  | a :: l => if a = k then cntRun k l + 1 else 0
theorem cntRun_drop (k : Int) (l : List Int) (j : Nat) (h : j < l.length) : cntRun k (l.drop j) = if l[j] = k then cntRun k (l.drop (j + 1)) + 1 else 0 := by
  rw [List.drop_eq_getElem_cons h, cntRun]
theorem cntRun_le (k : Int) (l : List Int) : cntRun k l ≤ l.length := by
  induction l with
  | nil => simp [cntRun]
  | cons a l ih =>
    rw [cntRun]
    split
    · simp; exact ih
    · simp
end Sw
namespace Go.Proofs.Ythmlfeaoaanmoaa
open Go.RowKit
open Sw
def intE (k : Int) : List Value := [.int .i64 k]
set_option maxRecDepth 100000 in
set_option maxHeartbeats 1000000 in
theorem run_any (w : World) (g : Nat) (A : Option Addr) (n c : Nat) (l : List Int) (k : Int) (hl : l.length = n) (hnm : n ≤ maxLen) (hsl : SlOf w 1 intE A l) (hc : w.cell? ⟨g, 0, none⟩ = some (.slice A n c)) :
    Calls Try.prog 77 #[.int .i64 k, .pointer (some ⟨g, 0, none⟩)] w fun e w' => e = .returned (.int .i64 (cntRun k l : Nat)) ∧ w = w' := by
  unfold maxLen at hnm
  have HS := Lib.hid hsl; clear hsl
  have HL := Lib.hid hl; clear hl
  go_enter Try.func77, Try.ntmps77
  go_wp2_with fail
  go_loop [3] (fun x => ∃ j : Nat, j ≤ n ∧ x = .int .i64 j ∧ cntRun k l = j + cntRun k (l.drop j)) (fun x => n - (intOf x).toNat)
  case atStart => exact ⟨0, Nat.zero_le _, rfl, by simp⟩
  case round =>
    obtain ⟨j, hj, rfl, hr⟩ := hrel
    by_cases hlt : j < n
    · have hjl : j < l.length := by have := HL.out; omega
      obtain ⟨b, off, rfl, hb, hcs⟩ := HS.out (by omega)
      have hc0 := hcs j hjl 0 (by omega)
      simp [intE] at hc0
      clear hcs
      have hd := cntRun_drop k l j hjl
      have HD := Lib.hid hd; clear hd
      have HR := Lib.hid hr; clear hr
      by_cases he : l[j] = k
      · have ht : (l[j] == k) = true := by rw [he]; simp
        have hcount : cntRun k l = (j + 1) + cntRun k (l.drop (j + 1)) := by
          have h1 := HR.out
          have h2 := HD.out
          rw [if_pos he] at h2
          omega
        have HCN := Lib.hid hcount; clear hcount he
        generalize l[j] = a at *
        go_wp2_with fail
        exact ⟨⟨j + 1, by omega, by go_num, HCN.out⟩, by simp [intOf]; omega⟩
      · have ht : (l[j] == k) = false := by rw [beq_eq_false_iff_ne]; exact he
        have hcount : cntRun k l = j := by
          have h1 := HR.out
          have h2 := HD.out
          rw [if_neg he] at h2
          omega
        have HCN := Lib.hid hcount; clear hcount he
        generalize l[j] = a at *
        go_wp2_with fail
        go_ret
        rw [HCN.out]
        exact ⟨rfl, rfl⟩
    · obtain rfl : j = n := by omega
      have hcount : cntRun k l = j := by
        rw [hr, List.drop_of_length_le (by rw [HL.out]; exact Nat.le_refl _)]
        simp [cntRun]
      have HCN := Lib.hid hcount; clear hcount hr
      go_wp2_with fail
      go_ret
      rw [HCN.out]
      exact ⟨rfl, rfl⟩
end Go.Proofs.Ythmlfeaoaanmoaa
