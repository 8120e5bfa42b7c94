/- A sector of one byte; of noughts, as the reference makes it. -/
import Derived.Test.YtlogdionhgabdaaDevOps
set_option linter.unusedVariables false
set_option linter.unusedSimpArgs false
namespace Sw
open Go Go.RowKit
/-- i bytes are laid, the rest is nought -/
def secL (b : UInt8) (i : Nat) : List UInt8 := List.replicate i b ++ List.replicate (512 - i) 0
theorem secL_len (b : UInt8) (i : Nat) (h : i ≤ 512) : (secL b i).length = 512 := by
  unfold secL
  rw [List.length_append, List.length_replicate, List.length_replicate]
  omega
theorem secL_end (b : UInt8) : secL b 512 = List.replicate 512 b := by
  unfold secL
  rw [Nat.sub_self, List.replicate_zero, List.append_nil]
theorem secL_at (b : UInt8) (i : Nat) (h : i < 512) : (bytesV (secL b i))[i]? = some (.int .u8 0) := by
  unfold secL bytesV
  rw [List.getElem?_map, List.getElem?_append_right (by rw [List.length_replicate]; exact Nat.le_refl _), List.length_replicate, Nat.sub_self, List.getElem?_replicate, if_pos (by omega)]
  rfl
theorem secL_set (b : UInt8) (i : Nat) (h : i < 512) : (bytesV (secL b i)).set i (.int .u8 (b.toNat : Int)) = bytesV (secL b (i + 1)) := by
  have e : Value.int .u8 (b.toNat : Int) = (fun b : UInt8 => Value.int .u8 (b.toNat : Int)) b := rfl
  unfold bytesV
  rw [e, ← List.map_set]
  congr 1
  unfold secL
  rw [List.set_append_right _ _ (by rw [List.length_replicate]; exact Nat.le_refl _), List.length_replicate, Nat.sub_self, show 512 - i = (512 - (i + 1)) + 1 by omega, List.replicate_succ, List.set_cons_zero, List.replicate_succ', List.append_assoc]
  rfl
theorem secL_zeros (b : UInt8) : bytesV (secL b 0) = (madeCells (Value.int .u8 0).cells (512 * 1)).toList := by
  have h1 := toList_madeCells_one (.int .u8 0) 512
  have h2 : (madeCells (Value.int .u8 0).cells (512 * 1)) = madeCells #[.int .u8 0] 512 := by rw [Nat.mul_one]; rfl
  rw [h2, h1]
  unfold bytesV secL
  rw [List.replicate_zero, List.nil_append, List.map_replicate]
  rfl
end Sw
namespace Go.Proofs.Ytlogdionhgabdaa
open Go Go.RowKit
open Sw
theorem info_u8 : (Try.prog.info? 5).map (fun i => (i.zero, i.size, i.bytes)) = some (some (.int .u8 0), 1, 1) := by kernel_rfl
set_option maxRecDepth 100000 in
set_option maxHeartbeats 400000 in
theorem sector_any (b : UInt8) (w : World) :
    Calls Try.prog 11 #[.int .u8 (b.toNat : Int)] w fun e w' => e = .returned (.string (secS b)) ∧ Below w.heap.size w w' := by
  obtain ⟨i0, hi, hz0, hz1, hz2⟩ := info_parts info_u8
  go_enter Try.func11, Try.ntmps11
  go_wp2_with (at_make; refine wpList_make_full _ rfl _ _ 54 rfl w.heap.size 5 i0 (.int .u8 0) 1 Try.underlying54 hi hz0 hz1 .i64 .i64 512 512 512 rfl rfl rfl rfl (by rw [hz2]; omega) (by unfold maxLen; omega) (Nat.le_refl _) ?_; intro w1 hown hgrow)
  have hb := (Below.refl w.heap.size w).grown hgrow (Nat.le_refl _) (by simp)
  clear hgrow
  have hown0 : w1.ownsRow w.heap.size 5 1 (.slice (some ⟨w.heap.size, 0, none⟩) 512 512) 512 (bytesV (secL b 0)) := by
    rw [secL_zeros]; exact hown
  clear hown
  go_loopw [4, 8] (fun _ t wr => ∃ i : Nat, i ≤ 512 ∧ t = .int .i64 i ∧ wr.ownsRow w.heap.size 5 1 (.slice (some ⟨w.heap.size, 0, none⟩) 512 512) 512 (bytesV (secL b i)) ∧ Below w.heap.size w wr) (fun _ t _ => 512 - (intOf t).toNat)
  case atStart => exact ⟨0, Nat.zero_le _, rfl, hown0, hb⟩
  case round =>
    obtain ⟨i, hik, rfl, hr, hbr⟩ := hrel
    by_cases hlt : i < 512
    · have hc := hr.cellAt i (by omega)
      have hf := hr.frozenAt i
      rw [secL_at b i hlt] at hc
      obtain ⟨hs, hg⟩ := hr.stored i (.int .u8 (b.toNat : Int))
      rw [secL_set b i hlt] at hs
      have hb' := hbr.grown hg hbr.size (by intro q hq; cases hq; exact Nat.le_refl _)
      have HS := Lib.hid hs; clear hs
      have HB := Lib.hid hb'; clear hb' hg hr
      have hi1 : (i : Int) < 512 := by omega
      go_wp2
      go_roundw
      case rel => exact ⟨i + 1, by omega, by go_num, HS.out, HB.out⟩
      case measure => simp [intOf]; omega
    · obtain rfl : i = 512 := by omega
      have hcv := conv_own (P := Try.prog) 54 9 5 Try.underlying54 Try.underlying5 Try.underlying9 _ _ _ _ hr
      rw [secL_end] at hcv
      have he : (⟨(List.replicate 512 b).toArray⟩ : ByteArray) = secS b := rfl
      rw [he] at hcv
      have HB := Lib.hid hbr; clear hr hbr he
      go_wp2
      go_ret
      exact ⟨rfl, HB.out⟩
end Go.Proofs.Ytlogdionhgabdaa
