/- Contracts of dos.digits, dos.Text; the document's example. -/
import Derived.Test.YthmlfeaoaanmoaaDosTop
import Derived.Laws.OwnMore
import Derived.Laws.IdiomStrings
set_option linter.unusedVariables false
namespace Go.Proofs.Ythmlfeaoaanmoaa
open Go.RowKit
open Sw
/-- the last digits of a number -/
def digL (n : Nat) : Nat → List UInt8
  | 0 => []
  | i + 1 => UInt8.ofNat (48 + n / 10 ^ i % 10) :: digL n i
theorem digL_length (n i : Nat) : (digL n i).length = i := by
  induction i with
  | zero => rfl
  | succ i ih => rw [digL, List.length_cons, ih]
def byteVals (l : List UInt8) : List Value := l.map fun b => .int .u8 (b.toNat : Int)
theorem byteVals_zeros (k : Nat) : byteVals (List.replicate (k - 0) 0 ++ []) = (madeCells (Value.int .u8 0).cells (k * 1)).toList := by
  apply List.ext_getElem
  · simp [byteVals, madeCells]
  · intro j h1 h2
    simp [byteVals, madeCells, Value.cells, Nat.mod_one]
theorem bv_at (n i k j : Nat) (h : i < k) (hj : j = k - 1 - i) : (byteVals (List.replicate (k - i) 0 ++ digL n i))[j]? = some (.int .u8 0) := by
  have h2 : j < k - i := by omega
  simp [byteVals, List.getElem?_append_left, h2]
theorem bv_set (n i k j : Nat) (h : i < k) (hj : j = k - 1 - i) (v : Int) (hv : v = ((48 + n / 10 ^ i % 10 : Nat) : Int)) : (byteVals (List.replicate (k - i) 0 ++ digL n i)).set j (.int .u8 v) = byteVals (List.replicate (k - (i + 1)) 0 ++ digL n (i + 1)) := by
  have e3 : (UInt8.ofNat (48 + n / 10 ^ i % 10)).toNat = 48 + n / 10 ^ i % 10 := by
    have := Nat.mod_lt (n / 10 ^ i) (show 0 < 10 by omega)
    simp
    omega
  have e : Value.int .u8 v = (fun b : UInt8 => Value.int .u8 (b.toNat : Int)) (UInt8.ofNat (48 + n / 10 ^ i % 10)) := by
    show Value.int .u8 _ = Value.int .u8 _
    rw [e3, hv]
  rw [e, byteVals, ← List.map_set, byteVals]
  congr 1
  have hki : k - i = (k - (i + 1)) + 1 := by omega
  have hj2 : j = k - (i + 1) := by omega
  rw [hki, hj2, List.replicate_succ', List.append_assoc, List.set_append_right _ _ (by simp), digL]
  simp
theorem info_u8 : (Try.prog.info? 5).map (fun i => (i.zero, i.size, i.bytes)) = some (some (.int .u8 0), 1, 1) := by kernel_rfl
set_option maxRecDepth 100000 in
set_option maxHeartbeats 400000 in
theorem digits_any (w : World) (x k : Nat) (hx : x < 4294967296) (hk : k ≤ 8) :
    Calls Try.prog 58 #[.int .i64 x, .int .i64 k] w fun e w' => e = .returned (.string ⟨(digL x k).toArray⟩) ∧ Below w.heap.size w w' := by
  obtain ⟨i0, hi, hz0, hz1, hz2⟩ := info_parts info_u8
  go_enter Try.func58, Try.ntmps58
  go_wp2_with (at_make; refine wpList_make_full _ rfl _ _ 76 rfl w.heap.size 5 i0 (.int .u8 0) 1 Try.underlying76 hi hz0 hz1 .i64 .i64 k k k rfl rfl rfl rfl (by rw [hz2]; omega) (by unfold maxLen; omega) (Nat.le_refl _) ?_; intro w1 hown hgrow)
  have hb := (Below.refl w.heap.size w).grown hgrow (Nat.le_refl _) (by simp)
  clear hgrow
  have hown0 : w1.ownsRow w.heap.size 5 1 (.slice (some ⟨w.heap.size, 0, none⟩) k k) k (byteVals (List.replicate (k - 0) 0 ++ digL x 0)) := by
    have e : (madeCells (Value.int .u8 0).cells (k * 1)).toList = byteVals (List.replicate (k - 0) 0 ++ digL x 0) := by rw [digL, byteVals_zeros]
    rw [← e]; exact hown
  clear hown
  go_loopw [0, 6, 11] (fun n _ t wr => ∃ i : Nat, i ≤ k ∧ t = .int .i64 i ∧ n = .int .i64 (x / 10 ^ i : Nat) ∧ wr.ownsRow w.heap.size 5 1 (.slice (some ⟨w.heap.size, 0, none⟩) k k) k (byteVals (List.replicate (k - i) 0 ++ digL x i)) ∧ Below w.heap.size w wr) (fun _ _ t _ => k - (intOf t).toNat)
  case atStart => exact ⟨0, Nat.zero_le _, rfl, by simp, hown0, hb⟩
  case round =>
    obtain ⟨i, hik, rfl, rfl, hr, hbr⟩ := hrel
    by_cases hlt : i < k
    · have hn : x / 10 ^ i ≤ x := Nat.div_le_self _ _
      have hn1 : x / 10 ^ (i + 1) = x / 10 ^ i / 10 := by rw [Nat.pow_succ, Nat.div_div_eq_div_mul]
      have HN := Lib.hid hn1; clear hn1
      obtain ⟨j, hj⟩ : ∃ j : Nat, j = k - 1 - i := ⟨_, rfl⟩
      have hjc : ((k : Int) - 1 - i) = (j : Int) := by omega
      have hc := hr.cellAt j (by omega)
      have hf := hr.frozenAt j
      rw [bv_at x i k j hlt hj] at hc
      obtain ⟨hs, hg⟩ := hr.stored j (.int .u8 ((48 + x / 10 ^ i % 10 : Nat) : Int))
      rw [bv_set x i k j hlt hj _ rfl] at hs
      have hb' := hbr.grown hg hbr.size (by intro q hq; cases hq; exact Nat.le_refl _)
      have HS := Lib.hid hs; clear hs
      have HB := Lib.hid hb'; clear hb' hg hr
      generalize x / 10 ^ i = n at *
      have hjk : j < k := by omega
      have HJ := Lib.hid hj; clear hj
      go_wp2
      have hcast : ((48 + n % 10 : Nat) : Int) = 48 + (n : Int) % 10 := by omega
      rw [hcast] at HS HB
      go_roundw
      case rel => exact ⟨i + 1, by omega, by go_num, by rw [HN.out]; simp, HS.out, HB.out⟩
      case measure => simp [intOf]; omega
    · obtain rfl : i = k := by omega
      have hc : ∀ j (hj : j < (digL x i).length), wr.cell? ((⟨w.heap.size, 0, none⟩ : Addr).add j) = some (.int .u8 (((digL x i)[j]).toNat : Int)) := fun j hj => by
        refine hr.cells rfl j _ ?_
        rw [Nat.sub_self, List.replicate_zero, List.nil_append]
        simp [byteVals, List.getElem?_eq_getElem hj]
      have hcv := run_convert_bytes_back wr 76 9 5 ⟨w.heap.size, 0, none⟩ i (digL x i) Try.underlying76 Try.underlying5 Try.underlying9 hc
      rw [digL_length] at hcv
      clear hc
      go_wp2
      go_ret
      exact ⟨rfl, hbr⟩
def dig (n : Int) (k : Nat) : ByteArray := ⟨(digL n.toNat k).toArray⟩
theorem dig_size (n : Int) (k : Nat) : (dig n k).size = k := by
  show (digL n.toNat k).toArray.size = k
  rw [List.size_toArray, digL_length]
theorem digits_int (w : World) (n : Int) (k : Nat) (h0 : 0 ≤ n) (h1 : n < 4294967296) (hk : k ≤ 8) :
    Calls Try.prog 58 #[.int .i64 n, .int .i64 k] w fun e w' => e = .returned (.string (dig n k)) ∧ Below w.heap.size w w' := by
  obtain ⟨x, rfl⟩ := Int.eq_ofNat_of_zero_le h0
  exact digits_any w x k (by omega) hk
theorem digits_four (w : World) (n : Int) (h0 : 0 ≤ n) (h1 : n < 4294967296) :
    Calls Try.prog 58 #[.int .i64 n, .int .i64 4] w fun e w' => e = .returned (.string (dig n 4)) ∧ Below w.heap.size w w' := digits_int w n 4 h0 h1 (by omega)
theorem digits_two (w : World) (n : Int) (h0 : 0 ≤ n) (h1 : n < 4294967296) :
    Calls Try.prog 58 #[.int .i64 n, .int .i64 2] w fun e w' => e = .returned (.string (dig n 2)) ∧ Below w.heap.size w w' := digits_int w n 2 h0 h1 (by omega)
def textD (x : Dt) : ByteArray := dig x.y 4 ++ ⟨#[45]⟩ ++ dig x.m 2 ++ ⟨#[45]⟩ ++ dig x.d 2 ++ ⟨#[32]⟩ ++ dig x.h 2 ++ ⟨#[58]⟩ ++ dig x.mi 2 ++ ⟨#[58]⟩ ++ dig x.s 2
def textOr (x : Dt) : ByteArray := if x.Ok then textD x else ⟨#[]⟩
set_option maxRecDepth 100000 in
set_option maxHeartbeats 4000000 in
theorem text_any (w : World) (t : Int) (h0 : 0 ≤ t) (h1 : t < 4294967296) :
    Calls Try.prog 26 #[.int .u32 t] w fun e w' => e = .returned (.string (textOr (splitD t))) ∧ Below w.heap.size w w' := by
  have h := fun W => dosSplit_any W t h0 h1
  unfold splitOr at h
  unfold textOr
  generalize splitD t = x at *
  by_cases hok : x.Ok
  · rw [if_pos hok]
    simp only [if_pos hok, decide_eq_true hok] at h
    have HY := Lib.hid (fun W => digits_four W x.y (by have := hok.year; omega) (by have := hok.year; omega))
    have HM := Lib.hid (fun W => digits_two W x.m (by have := hok.year; omega) (by have := hok.year; omega))
    have HD := Lib.hid (fun W => digits_two W x.d (by have := hok.year; omega) (by have := hok.year; omega))
    have HH := Lib.hid (fun W => digits_two W x.h (by unfold Dt.Ok at hok; omega) (by unfold Dt.Ok at hok; omega))
    have HI := Lib.hid (fun W => digits_two W x.mi (by unfold Dt.Ok at hok; omega) (by unfold Dt.Ok at hok; omega))
    have HS := Lib.hid (fun W => digits_two W x.s (by unfold Dt.Ok at hok; omega) (by unfold Dt.Ok at hok; omega))
    have hT : textD x = dig x.y 4 ++ ⟨#[45]⟩ ++ dig x.m 2 ++ ⟨#[45]⟩ ++ dig x.d 2 ++ ⟨#[32]⟩ ++ dig x.h 2 ++ ⟨#[58]⟩ ++ dig x.mi 2 ++ ⟨#[58]⟩ ++ dig x.s 2 := rfl
    have sY := dig_size x.y 4
    have sM := dig_size x.m 2
    have sD := dig_size x.d 2
    have sH := dig_size x.h 2
    have sI := dig_size x.mi 2
    have sS := dig_size x.s 2
    rw [hT]
    clear hT
    generalize dig x.y 4 = Y at *
    generalize dig x.m 2 = M at *
    generalize dig x.d 2 = D at *
    generalize dig x.h 2 = H at *
    generalize dig x.mi 2 = I at *
    generalize dig x.s 2 = S at *
    have HSP := Lib.hid h; clear h
    go_enter Try.func26, Try.ntmps26
    go_wp2_with fail
    refine (HSP.out _).mono ?_
    rintro e w1 ⟨rfl, hb1⟩
    have hTA : TimeAt w w1.heap.size 26 x (w1.alloc (Obj.cells (Dt.v x) 26)).drew := ⟨Blk.new w1 _ _, (hb1.alloc hb1.size _).drew⟩
    have HTD := Lib.hid hTA; clear hTA
    have q0 : ∀ n : Held (TimeAt w w1.heap.size 26 x), (HeldW n).cell? ⟨w1.heap.size, 0, none⟩ = some (.int .i64 x.y) := fun n => (HeldW_spec n).1.cell 0
    have q1 : ∀ n : Held (TimeAt w w1.heap.size 26 x), (HeldW n).cell? ⟨w1.heap.size, 1, none⟩ = some (.int .i64 x.m) := fun n => (HeldW_spec n).1.cell 1
    have q2 : ∀ n : Held (TimeAt w w1.heap.size 26 x), (HeldW n).cell? ⟨w1.heap.size, 2, none⟩ = some (.int .i64 x.d) := fun n => (HeldW_spec n).1.cell 2
    have q3 : ∀ n : Held (TimeAt w w1.heap.size 26 x), (HeldW n).cell? ⟨w1.heap.size, 3, none⟩ = some (.int .i64 x.h) := fun n => (HeldW_spec n).1.cell 3
    have q4 : ∀ n : Held (TimeAt w w1.heap.size 26 x), (HeldW n).cell? ⟨w1.heap.size, 4, none⟩ = some (.int .i64 x.mi) := fun n => (HeldW_spec n).1.cell 4
    have q5 : ∀ n : Held (TimeAt w w1.heap.size 26 x), (HeldW n).cell? ⟨w1.heap.size, 5, none⟩ = some (.int .i64 x.s) := fun n => (HeldW_spec n).1.cell 5
    haveI : Nonempty (Held (TimeAt w w1.heap.size 26 x)) := held_some HTD.out
    unfold Dt.v
    unfold Dt.v at HTD
    go_wp2_with fail
    refine wp_region_class (TimeAt w w1.heap.size 26 x) (by kernel_rfl) (by kernel_rfl) HTD.out ?_
    repeat (go_big_quiet_step (first | with_reducible exact held_below (fun _ _ => TimeAt.below) (HY.out _) | with_reducible exact held_below (fun _ _ => TimeAt.below) (HM.out _) | with_reducible exact held_below (fun _ _ => TimeAt.below) (HD.out _) | with_reducible exact held_below (fun _ _ => TimeAt.below) (HH.out _) | with_reducible exact held_below (fun _ _ => TimeAt.below) (HI.out _) | with_reducible exact held_below (fun _ _ => TimeAt.below) (HS.out _)))
    refine wpQuiet_nil ?_
    rintro _ ⟨n, rfl⟩
    go_wp2_with fail
    go_ret
    exact ⟨rfl, (HeldW_spec n).2⟩
  · rw [if_neg hok]
    simp only [if_neg hok, decide_eq_false hok] at h
    have HSP := Lib.hid h; clear h
    unfold zeroD Dt.v at HSP
    go_enter Try.func26, Try.ntmps26
    go_wp2_with fail
    refine (HSP.out _).mono ?_
    rintro e w1 ⟨rfl, hb1⟩
    go_wp2_with fail
    go_ret
    exact ⟨rfl, hb1.alloc hb1.size _⟩
theorem text_example : textOr (splitD 2162688) = ⟨#[49, 57, 56, 48, 45, 48, 49, 45, 48, 49, 32, 48, 48, 58, 48, 48, 58, 48, 48]⟩ := by decide +kernel
theorem dos_lives (w : World) : Calls Try.prog 23 #[] w fun e w' => e = .returned (.bool true) ∧ Below w.heap.size w w' := by
  have h := fun W => text_any W 2162688 (by omega) (by omega)
  rw [text_example] at h
  have h2 := fun W => dosRight_any W 2162688 (by omega) (by omega)
  have e : decide (splitD 2162688).Ok = true := by decide +kernel
  rw [e] at h2
  have HH := Lib.hid h; clear h
  have H2 := Lib.hid h2; clear h2 e
  go_enter Try.func23, Try.ntmps23
  go_wp2_with (first | (go_at_call 26; refine (HH.out _).mono ?_; rintro e w1 ⟨rfl, hb1⟩) | (go_at_call 20; refine (H2.out _).mono ?_; rintro e w2 ⟨rfl, hb2⟩))
  go_ret
  exact ⟨rfl, hb1.trans (hb2.mono hb1.size)⟩
end Go.Proofs.Ythmlfeaoaanmoaa
