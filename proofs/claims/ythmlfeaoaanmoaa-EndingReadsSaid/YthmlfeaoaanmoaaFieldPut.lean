/- Contracts of field.Put and of the reference's Put: the lowest bytes of a number. -/
import Derived.Test.YthmlfeaoaanmoaaRows
import Derived.Test.YthmlfeaoaanmoaaFieldPlain
import Derived.Test.YthmlfeaoaanmoaaKit
import Derived.WalkKit
import Derived.Outline
import Derived.LoopTactic
import Derived.Lib.Hide
import Derived.WalkSpells
import Derived.WalkLawsBesides
import Derived.Lib.MinMax
set_option linter.unusedVariables false
namespace Go.Proofs.Ythmlfeaoaanmoaa
open Go.RowKit
open Sw
def byteVals (l : List UInt8) : List Value := l.map fun b => .int .u8 (b.toNat : Int)
theorem byteVals_zeros (k : Nat) : byteVals ([] ++ List.replicate (k - 0) 0) = (madeCells (Value.int .u8 0).cells (k * 1)).toList := by
  apply List.ext_getElem
  · simp [byteVals, madeCells]
  · intro j h1 h2
    simp [byteVals, madeCells, Value.cells, Nat.mod_one]
theorem bv_at (x i k : Nat) (h : i < k) : (byteVals (putL x i ++ List.replicate (k - i) 0))[i]? = some (.int .u8 0) := by
  have h2 : ¬ k - i = 0 := by omega
  simp [byteVals, List.getElem?_append_right, putL_length, List.getElem?_replicate, h2]
theorem bv_set (x i k : Nat) (h : i < k) : (byteVals (putL x i ++ List.replicate (k - i) 0)).set i (.int .u8 ((x : Int) / 2 ^ (8 * i) % 256)) = byteVals (putL x (i + 1) ++ List.replicate (k - (i + 1)) 0) := by
  have e : Value.int .u8 ((x : Int) / 2 ^ (8 * i) % 256) = (fun b : UInt8 => Value.int .u8 (b.toNat : Int)) (UInt8.ofNat (x / 256 ^ i % 256)) := by
    have e1 : (256 : Nat) ^ i = 2 ^ (8 * i) := by rw [Nat.pow_mul]
    have e2 : ((2 : Int) ^ (8 * i)) = ((256 ^ i : Nat) : Int) := by rw [e1]; push_cast; rfl
    have e3 : (UInt8.ofNat (x / 256 ^ i % 256)).toNat = x / 256 ^ i % 256 := by simp
    show Value.int .u8 _ = Value.int .u8 _
    rw [e3, e2, Int.natCast_emod, Int.natCast_ediv]; rfl
  rw [e, byteVals, ← List.map_set, byteVals]
  congr 1
  rw [List.set_append_right _ _ (by rw [putL_length]; exact Nat.le_refl _), putL_length, Nat.sub_self, putL_snoc]
  rw [show k - i = (k - (i + 1)) + 1 by omega, List.replicate_succ, List.set_cons_zero, List.append_assoc]; rfl
theorem info_u8 : (Try.prog.info? 5).map (fun i => (i.zero, i.size, i.bytes)) = some (some (.int .u8 0), 1, 1) := by kernel_rfl
set_option maxRecDepth 100000 in
set_option maxHeartbeats 400000 in
theorem fieldPut_any (x : Nat) (n : Int) (w : World) (hx : x < 2 ^ 64) (k : Nat) (hk : k ≤ 8) (hn : max 0 (min n 8) = (k : Int)) :
    Calls Try.prog 90 #[.int .u64 x, .int .i64 n] w fun e w' => e = .returned (.string ⟨(putL x k).toArray⟩) ∧ Below w.heap.size w w' := by
  have HX := Lib.hid hx; clear hx
  obtain ⟨i0, hi, hz0, hz1, hz2⟩ := info_parts info_u8
  go_enter Try.func90, Try.ntmps90
  go_wp2_with (at_make; refine wpList_make_full _ rfl _ _ 76 rfl w.heap.size 5 i0 (.int .u8 0) 1 Try.underlying76 hi hz0 hz1 .i64 .i64 k k k rfl rfl rfl rfl (by rw [hz2]; omega) (by unfold maxLen; omega) (Nat.le_refl _) ?_; intro w1 hown hgrow)
  have hb := (Below.refl w.heap.size w).grown hgrow (Nat.le_refl _) (by simp)
  clear hgrow
  have hown0 : w1.ownsRow w.heap.size 5 1 (.slice (some ⟨w.heap.size, 0, none⟩) k k) k (byteVals (putL x 0 ++ List.replicate (k - 0) 0)) := by
    have e : (madeCells (Value.int .u8 0).cells (k * 1)).toList = byteVals (putL x 0 ++ List.replicate (k - 0) 0) := by rw [putL, byteVals_zeros]
    rw [← e]; exact hown
  clear hown
  go_loopw [6, 13] (fun _ t wr => ∃ i : Nat, i ≤ k ∧ t = .int .i64 i ∧ wr.ownsRow w.heap.size 5 1 (.slice (some ⟨w.heap.size, 0, none⟩) k k) k (byteVals (putL x i ++ List.replicate (k - i) 0)) ∧ Below w.heap.size w wr) (fun _ t _ => k - (intOf t).toNat)
  case atStart => exact ⟨0, Nat.zero_le _, rfl, hown0, hb⟩
  case round =>
    obtain ⟨i, hik, rfl, hr, hbr⟩ := hrel
    by_cases hlt : i < k
    · have hc := hr.cellAt i (by omega)
      have hf := hr.frozenAt i
      rw [bv_at x i k hlt] at hc
      obtain ⟨hs, hg⟩ := hr.stored i (.int .u8 ((x : Int) / 2 ^ (8 * i) % 256))
      rw [bv_set x i k hlt] at hs
      have hb' := hbr.grown hg hbr.size (by intro q hq; cases hq; exact Nat.le_refl _)
      have HS := Lib.hid hs; clear hs
      have HB := Lib.hid hb'; clear hb' hg hr
      go_wp2
      go_roundw
      case rel => exact ⟨i + 1, by omega, by go_num, HS.out, HB.out⟩
      case measure => simp [intOf]; omega
    · obtain rfl : i = k := by omega
      have hc : ∀ j (hj : j < (putL x i).length), wr.cell? ((⟨w.heap.size, 0, none⟩ : Addr).add j) = some (.int .u8 (((putL x i)[j]).toNat : Int)) := fun j hj => by
        refine hr.cells rfl j _ ?_
        rw [Nat.sub_self, List.replicate_zero, List.append_nil]
        simp [byteVals, List.getElem?_eq_getElem hj]
      have hcv := run_convert_bytes_back wr 76 9 5 ⟨w.heap.size, 0, none⟩ i (putL x i) Try.underlying76 Try.underlying5 Try.underlying9 hc
      rw [putL_length] at hcv
      clear hc
      go_wp2
      go_ret
      exact ⟨rfl, hbr⟩
theorem refPut_val (x i : Nat) (hx : x < 2 ^ 64) : IntKind.u64.wrap (((x : Int) / 256 ^ i).tdiv 256) = ((x / 256 ^ (i + 1) : Nat) : Int) := by
  have e : ((x : Int) / 256 ^ i) = ((x / 256 ^ i : Nat) : Int) := by rw [Int.natCast_ediv, Int.natCast_pow]; rfl
  have h1 : x / 256 ^ (i + 1) = x / 256 ^ i / 256 := by rw [Nat.pow_succ, Nat.div_div_eq_div_mul]
  have h2 : x / 256 ^ i ≤ x := Nat.div_le_self _ _
  rw [e, h1]
  generalize x / 256 ^ i = q at h2 ⊢
  rw [Int.tdiv_eq_ediv_of_nonneg (by omega), IntWalk.u64_in _ (by omega)]
  omega
theorem refPut_str (x i : Nat) : ({ data := (putL x i).toArray } : ByteArray) ++ { data := #[UInt8.ofNat (((x : Int) / 256 ^ i).tmod 256 % 256).toNat] } = { data := (putL x (i + 1)).toArray } := by
  have e : ((x : Int) / 256 ^ i) = ((x / 256 ^ i : Nat) : Int) := by rw [Int.natCast_ediv, Int.natCast_pow]; rfl
  have e2 : (((x : Int) / 256 ^ i).tmod 256 % 256).toNat = x / 256 ^ i % 256 := by
    rw [e]
    generalize x / 256 ^ i = q
    rw [Int.tmod_eq_emod_of_nonneg (by omega)]; omega
  rw [e2, putL_snoc]
  apply ByteArray.ext
  simp
end Go.Proofs.Ythmlfeaoaanmoaa
