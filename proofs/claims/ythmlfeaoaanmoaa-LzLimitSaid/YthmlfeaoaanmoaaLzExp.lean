/- Plain laws of expansion; contracts of lz.fits and lz.Expand. -/
import Derived.Test.YthmlfeaoaanmoaaLzTok
set_option linter.unusedVariables false
set_option linter.unusedSimpArgs false
namespace Sw
open Go
/-- may a token be, behind so many bytes? -/
def fitsT (t : Tk) (n : Int) : Bool := decide (if t.long = 0 then t.back = 0 ∧ n < 65000 else t.byte = 0 ∧ 3 ≤ t.long ∧ t.long ≤ 258 ∧ 1 ≤ t.back ∧ t.back ≤ 32768 ∧ t.back ≤ n ∧ t.long ≤ 65000 - n)
/-- a text that goes on for i bytes as it did k back -/
def copyN (out : List UInt8) (k : Nat) : Nat → List UInt8
  | 0 => out
  | i + 1 => copyN out k i ++ [(copyN out k i).getD ((copyN out k i).length - k) 0]
theorem copyN_len (out : List UInt8) (k : Nat) : ∀ i, (copyN out k i).length = out.length + i
  | 0 => rfl
  | i + 1 => by rw [copyN, List.length_append, copyN_len out k i]; simp; omega
def byteT (t : Tk) : UInt8 := UInt8.ofNat t.byte.toNat
def stepTk (t : Tk) (out : List UInt8) : List UInt8 := if t.long = 0 then out ++ [byteT t] else copyN out t.back.toNat t.long.toNat
def expT : List Tk → List UInt8 → Option (List UInt8)
  | [], out => some out
  | t :: ts, out => if fitsT t out.length = true then expT ts (stepTk t out) else none
theorem stepTk_len {t : Tk} {out : List UInt8} (h : fitsT t out.length = true) : (stepTk t out).length ≤ 65000 ∧ ((stepTk t out).length : Int) = out.length + max t.long 1 := by
  unfold fitsT at h
  have h := of_decide_eq_true h
  unfold stepTk
  split at h
  · rename_i hz
    rw [if_pos hz, List.length_append, List.length_singleton]
    omega
  · rename_i hz
    rw [if_neg hz, copyN_len]
    omega
end Sw
namespace Go.Proofs.Ythmlfeaoaanmoaa
open Go.RowKit
open Sw
set_option maxRecDepth 100000 in
set_option maxHeartbeats 8000000 in
theorem fits_any (w : World) (x y z n : Int) (hn0 : 0 ≤ n) (hn : n ≤ 65000) :
    Calls Try.prog 64 #[.agg #[.int .u8 x, .int .i64 y, .int .i64 z], .int .i64 n] w fun e w' => e = .returned (.bool (fitsT ⟨x, y, z⟩ n)) ∧ Below w.heap.size w w' := by
  have hb : Below w.heap.size w (w.alloc (.cells #[.int .u8 x, .int .i64 y, .int .i64 z] 80)) := (Below.refl _ _).alloc (Nat.le_refl _) _
  have hf : fitsT ⟨x, y, z⟩ n = decide (if y = 0 then z = 0 ∧ n < 65000 else x = 0 ∧ 3 ≤ y ∧ y ≤ 258 ∧ 1 ≤ z ∧ z ≤ 32768 ∧ z ≤ n ∧ y ≤ 65000 - n) := rfl
  have HF := Lib.hid hf; clear hf
  by_cases q0 : y = 0
  · have e0 : (y == 0) = true := by rw [beq_iff_eq]; exact q0
    by_cases q1 : z = 0
    · have e1 : (z == 0) = true := by rw [beq_iff_eq]; exact q1
      by_cases q2 : n < 65000
      · have HV := Lib.hid (show fitsT ⟨x, y, z⟩ n = true by rw [HF.out]; apply decide_eq_true; rw [if_pos q0]; omega)
        clear q0 q1
        go_enter Try.func64, Try.ntmps64
        go_wp2_with fail
        go_ret
        exact ⟨by rw [HV.out]; first | done | rfl, hb⟩
      · have HV := Lib.hid (show fitsT ⟨x, y, z⟩ n = false by rw [HF.out]; apply decide_eq_false; rw [if_pos q0]; omega)
        clear q0 q1
        go_enter Try.func64, Try.ntmps64
        go_wp2_with fail
        go_ret
        exact ⟨by rw [HV.out]; first | done | rfl, hb⟩
    · have e1 : (z == 0) = false := by rw [beq_eq_false_iff_ne]; exact q1
      have HV := Lib.hid (show fitsT ⟨x, y, z⟩ n = false by rw [HF.out]; apply decide_eq_false; rw [if_pos q0]; omega)
      clear q0 q1
      go_enter Try.func64, Try.ntmps64
      go_wp2_with fail
      go_ret
      exact ⟨by rw [HV.out]; first | done | rfl, hb⟩
  · have e0 : (y == 0) = false := by rw [beq_eq_false_iff_ne]; exact q0
    by_cases p0 : x = 0
    · have f0 : (x == 0) = true := by rw [beq_iff_eq]; exact p0
      by_cases p1 : 3 ≤ y
      · skip
        by_cases p2 : y ≤ 258
        · skip
          by_cases p3 : 1 ≤ z
          · skip
            by_cases p4 : z ≤ 32768
            · skip
              by_cases p5 : z ≤ n
              · skip
                by_cases p6 : y ≤ 65000 - n
                · skip
                  have HV := Lib.hid (show fitsT ⟨x, y, z⟩ n = true by rw [HF.out]; apply decide_eq_true; rw [if_neg q0]; omega)
                  clear q0 p0
                  go_enter Try.func64, Try.ntmps64
                  go_wp2_with fail
                  go_ret
                  exact ⟨by rw [HV.out]; first | done | rfl, hb⟩
                · skip
                  have HV := Lib.hid (show fitsT ⟨x, y, z⟩ n = false by rw [HF.out]; apply decide_eq_false; rw [if_neg q0]; omega)
                  clear q0 p0
                  go_enter Try.func64, Try.ntmps64
                  go_wp2_with fail
                  go_ret
                  exact ⟨by rw [HV.out]; first | done | rfl, hb⟩
              · skip
                have HV := Lib.hid (show fitsT ⟨x, y, z⟩ n = false by rw [HF.out]; apply decide_eq_false; rw [if_neg q0]; omega)
                clear q0 p0
                go_enter Try.func64, Try.ntmps64
                go_wp2_with fail
                go_ret
                exact ⟨by rw [HV.out]; first | done | rfl, hb⟩
            · skip
              have HV := Lib.hid (show fitsT ⟨x, y, z⟩ n = false by rw [HF.out]; apply decide_eq_false; rw [if_neg q0]; omega)
              clear q0 p0
              go_enter Try.func64, Try.ntmps64
              go_wp2_with fail
              go_ret
              exact ⟨by rw [HV.out]; first | done | rfl, hb⟩
          · skip
            have HV := Lib.hid (show fitsT ⟨x, y, z⟩ n = false by rw [HF.out]; apply decide_eq_false; rw [if_neg q0]; omega)
            clear q0 p0
            go_enter Try.func64, Try.ntmps64
            go_wp2_with fail
            go_ret
            exact ⟨by rw [HV.out]; first | done | rfl, hb⟩
        · skip
          have HV := Lib.hid (show fitsT ⟨x, y, z⟩ n = false by rw [HF.out]; apply decide_eq_false; rw [if_neg q0]; omega)
          clear q0 p0
          go_enter Try.func64, Try.ntmps64
          go_wp2_with fail
          go_ret
          exact ⟨by rw [HV.out]; first | done | rfl, hb⟩
      · skip
        have HV := Lib.hid (show fitsT ⟨x, y, z⟩ n = false by rw [HF.out]; apply decide_eq_false; rw [if_neg q0]; omega)
        clear q0 p0
        go_enter Try.func64, Try.ntmps64
        go_wp2_with fail
        go_ret
        exact ⟨by rw [HV.out]; first | done | rfl, hb⟩
    · have f0 : (x == 0) = false := by rw [beq_eq_false_iff_ne]; exact p0
      have HV := Lib.hid (show fitsT ⟨x, y, z⟩ n = false by rw [HF.out]; apply decide_eq_false; rw [if_neg q0]; omega)
      clear q0 p0
      go_enter Try.func64, Try.ntmps64
      go_wp2_with fail
      go_ret
      exact ⟨by rw [HV.out]; first | done | rfl, hb⟩
/-- what Expand answers -/
def ExpPost (l : List Tk) (w : World) (e : Ending) (w' : World) : Prop :=
  Below w.heap.size w w' ∧ match expT l [] with
  | none => e = .returned (.tuple #[.string ⟨#[]⟩, .bool false])
  | some out => e = .returned (.tuple #[.string ⟨out.toArray⟩, .bool true])
theorem info_byte : (Try.prog.info? 5).map (fun i => (i.zero, i.size, i.bytes)) = some (some (.int .u8 0), 1, 1) := by kernel_rfl
def TkIn (t : Tk) : Prop := 0 ≤ t.byte ∧ t.byte < 256
def byE (b : UInt8) : List Value := [.int .u8 (b.toNat : Int)]
theorem bytesV_flat (l : List UInt8) : bytesV l = l.flatMap byE := by
  induction l with
  | nil => rfl
  | cons a l ih => rw [List.flatMap_cons, ← ih]; rfl
end Go.Proofs.Ythmlfeaoaanmoaa
