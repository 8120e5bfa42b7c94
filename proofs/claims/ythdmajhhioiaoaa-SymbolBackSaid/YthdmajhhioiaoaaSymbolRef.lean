/- Contracts of the reference of layer 6. -/
import Derived.Test.YthdmajhhioiaoaaSymbolTop
set_option linter.unusedVariables false
namespace Go.Proofs.Ythdmajhhioiaoaa
open Go.RowKit
open Sw
/-- the tables as they lie -/
abbrev atL : Array Value := #[.int .i64 3, .int .i64 4, .int .i64 5, .int .i64 6, .int .i64 7, .int .i64 8, .int .i64 9, .int .i64 10, .int .i64 11, .int .i64 13, .int .i64 15, .int .i64 17, .int .i64 19, .int .i64 23, .int .i64 27, .int .i64 31, .int .i64 35, .int .i64 43, .int .i64 51, .int .i64 59, .int .i64 67, .int .i64 83, .int .i64 99, .int .i64 115, .int .i64 131, .int .i64 163, .int .i64 195, .int .i64 227, .int .i64 258, .int .i64 259]
abbrev bitsL : Array Value := #[.int .i64 0, .int .i64 0, .int .i64 0, .int .i64 0, .int .i64 0, .int .i64 0, .int .i64 0, .int .i64 0, .int .i64 1, .int .i64 1, .int .i64 1, .int .i64 1, .int .i64 2, .int .i64 2, .int .i64 2, .int .i64 2, .int .i64 3, .int .i64 3, .int .i64 3, .int .i64 3, .int .i64 4, .int .i64 4, .int .i64 4, .int .i64 4, .int .i64 5, .int .i64 5, .int .i64 5, .int .i64 5, .int .i64 0]
abbrev atB : Array Value := #[.int .i64 1, .int .i64 2, .int .i64 3, .int .i64 4, .int .i64 5, .int .i64 7, .int .i64 9, .int .i64 13, .int .i64 17, .int .i64 25, .int .i64 33, .int .i64 49, .int .i64 65, .int .i64 97, .int .i64 129, .int .i64 193, .int .i64 257, .int .i64 385, .int .i64 513, .int .i64 769, .int .i64 1025, .int .i64 1537, .int .i64 2049, .int .i64 3073, .int .i64 4097, .int .i64 6145, .int .i64 8193, .int .i64 12289, .int .i64 16385, .int .i64 24577, .int .i64 32769]
theorem row_at {n : Nat} {f : Nat → Nat} {C : Array Value} (h : C = ((List.range n).map fun i => Value.int .i64 (f i : Nat)).toArray) (i : Nat) (hi : i < n) : C[i]? = some (.int .i64 (f i : Nat)) := by
  rw [h]; simp [hi]
theorem atL_is : atL = ((List.range 30).map fun i => Value.int .i64 (TL i : Nat)).toArray := by kernel_rfl
theorem bitsL_is : bitsL = ((List.range 29).map fun i => Value.int .i64 (BL i : Nat)).toArray := by kernel_rfl
theorem atB_is : atB = ((List.range 31).map fun i => Value.int .i64 (bgN 1 2 4 i : Nat)).toArray := by kernel_rfl
theorem atL_size : atL.size = 30 := by kernel_rfl
theorem TL_le : ∀ i : Nat, i < 30 → TL i ≤ 259 := by decide +kernel
set_option maxRecDepth 100000 in
set_option maxHeartbeats 1000000 in
theorem refLong_any (w : World) (n : Int) (hn0 : -9223372036854775808 ≤ n) (hn1 : n ≤ 9223372036854775807) : Calls Try.prog 46 #[.int .i64 n] w fun e w' => e = .returned (signV (longS n)) ∧ Below w.heap.size w w' := by
  have HE := Lib.hid (refLong_eq n)
  go_enter Try.func46, Try.ntmps46
  go_wp2_with fail
  have hS : Blk (((w.alloc (Obj.cells #[.int .i64 0, .int .i64 0, .int .i64 0] 45)).alloc (Obj.cells atL 3)).alloc (Obj.cells bitsL 3)) w.heap.size 45 #[.int .i64 0, .int .i64 0, .int .i64 0] := Blk.alloc (Blk.alloc (Blk.new _ _ _) _) _
  have hA : Blk (((w.alloc (Obj.cells #[.int .i64 0, .int .i64 0, .int .i64 0] 45)).alloc (Obj.cells atL 3)).alloc (Obj.cells bitsL 3)) (w.heap.size + 1) 3 atL := Blk.alloc (blk_new2 _ _ _ _) _
  have hB : Blk (((w.alloc (Obj.cells #[.int .i64 0, .int .i64 0, .int .i64 0] 45)).alloc (Obj.cells atL 3)).alloc (Obj.cells bitsL 3)) (w.heap.size + 1 + 1) 3 bitsL := by
    have h := blk_new2 (w.alloc (Obj.cells #[.int .i64 0, .int .i64 0, .int .i64 0] 45)) (Obj.cells atL 3) 3 bitsL
    simpa using h
  have hb : Below w.heap.size w (((w.alloc (Obj.cells #[.int .i64 0, .int .i64 0, .int .i64 0] 45)).alloc (Obj.cells atL 3)).alloc (Obj.cells bitsL 3)) := (((Below.refl _ _).alloc (Nat.le_refl _) _).alloc (by simp) _).alloc (by simp; omega) _
  generalize (((w.alloc (Obj.cells #[.int .i64 0, .int .i64 0, .int .i64 0] 45)).alloc (Obj.cells atL 3)).alloc (Obj.cells bitsL 3)) = w1 at hS hA hB hb ⊢
  have hat : ∀ i, i < 30 → w1.cell? ⟨w.heap.size + 1, i, none⟩ = some (.int .i64 (TL i : Nat)) := fun i hi => by rw [hA.cell]; exact row_at atL_is i hi
  have hbt : ∀ i, i < 29 → w1.cell? ⟨w.heap.size + 1 + 1, i, none⟩ = some (.int .i64 (BL i : Nat)) := fun i hi => by rw [hB.cell]; exact row_at bitsL_is i hi
  have q0 := hS.cell 0
  have q1 := hS.cell 1
  have q2 := hS.cell 2
  have qf := hS.frozen
  simp at q0 q1 q2
  clear hA hB
  have HAT := Lib.hid hat; clear hat
  have HBT := Lib.hid hbt; clear hbt
  go_loop [3, 6, 11] (fun _ _ t => ∃ k : Nat, k ≤ 29 ∧ t = .int .i64 k ∧ rsrch n 29 0 = rsrch n (29 - k) k) (fun _ _ t => 29 - (intOf t).toNat)
  case atStart => exact ⟨0, Nat.zero_le _, rfl, rfl⟩
  case round =>
    obtain ⟨k, hk, rfl, hsr⟩ := hrel
    by_cases hlt : k < 29
    · have hst : rsrch n (29 - k) k = if (TL k : Int) ≤ n ∧ n < (TL (k + 1) : Int) then some k else rsrch n (29 - (k + 1)) (k + 1) := by
        rw [show 29 - k = (29 - (k + 1)) + 1 by omega, rsrch]
      have c0 := HAT.out k (by omega)
      have c1 := HAT.out (k + 1) (by omega)
      have c2 := HBT.out k hlt
      have l0 := TL_le k (by omega)
      have l1 := TL_le (k + 1) (by omega)
      have HSR := Lib.hid hsr; clear hsr
      have HST := Lib.hid hst; clear hst
      generalize hx : TL k = x at *
      generalize hz : TL (k + 1) = z at *
      generalize hb' : BL k = b at *
      have HX := Lib.hid hx; clear hx hz
      have HB := Lib.hid hb'; clear hb'
      by_cases hxn : (x : Int) ≤ n
      · by_cases hnz : n < (z : Int)
        · have k0 : (0 : Int) ≤ (k : Int) := by omega
          have k1 : (k : Int) < 29 := by omega
          have k2 : (k : Int) < 30 := by omega
          have e1 : IntKind.i64.wrap (257 + (k : Int)) = 257 + (k : Int) := IntWalk.i64_in _ (by omega)
          have e2 : IntKind.i64.wrap (n - (x : Int)) = n - (x : Int) := IntWalk.i64_in _ (by omega)
          have n1 : ¬ w.heap.size + 1 + 1 = w.heap.size := by omega
          have n2 : ¬ w.heap.size = w.heap.size + 1 + 1 := by omega
          go_wp2_with fail
          go_region_held3 (fun w' => w'.cell? ⟨w.heap.size + 1, k, none⟩ = some (.int .i64 x) ∧ w'.cell? ⟨w.heap.size + 1 + 1, k, none⟩ = some (.int .i64 b)) (first | exact ⟨c0, c2⟩ | go_keep) (fail)
          go_wp2
          have hS4 := Blk.drew (Blk.put (Blk.put (Blk.put hS 0 (.int .i64 (257 + k))) 1 (.int .i64 b)) 2 (.int .i64 (n - x)))
          refine bodyPost_ret (res_blk_tmp rfl _ _ w.heap.size 45 #[.int .i64 (257 + k), .int .i64 b, .int .i64 (n - x)] _ rfl hS4 Try.underlying45 rfl (by kernel_rfl)) rfl ⟨?_, ?_⟩
          · rw [← HE.out, refLongS, HSR.out, HST.out, if_pos ⟨hxn, hnz⟩, Option.map_some, HX.out, HB.out, signV]
            rw [show ((k + 257 : Nat) : Int) = 257 + (k : Int) by omega]
            rfl
          · exact (((hb.setCell (Nat.le_refl _) _).setCell (Nat.le_refl _) _).setCell (Nat.le_refl _) _).drew
        · go_wp2_with fail
          exact ⟨⟨k + 1, by omega, by go_num, by rw [HSR.out, HST.out, if_neg (by omega)]⟩, by simp [intOf]; omega⟩
      · go_wp2_with fail
        exact ⟨⟨k + 1, by omega, by go_num, by rw [HSR.out, HST.out, if_neg (by omega)]⟩, by simp [intOf]; omega⟩
    · obtain rfl : k = 29 := by omega
      have HSR := Lib.hid hsr; clear hsr
      go_wp2_with fail
      have hS4 := Blk.put (Blk.put (Blk.put hS 0 (.int .i64 0)) 1 (.int .i64 0)) 2 (.int .i64 0)
      refine bodyPost_ret (res_blk_tmp rfl _ _ w.heap.size 45 #[.int .i64 0, .int .i64 0, .int .i64 0] _ rfl hS4 Try.underlying45 rfl (by kernel_rfl)) rfl ⟨?_, ?_⟩
      · rw [← HE.out, refLongS, HSR.out]; rfl
      · exact (((hb.setCell (Nat.le_refl _) _).setCell (Nat.le_refl _) _).setCell (Nat.le_refl _) _)
theorem refBackBits_any (w : World) (code : Int) : Calls Try.prog 32 #[.int .i64 code] w fun e w' => e = .returned (.int .i64 (backBitsS code)) ∧ w = w' := by
  by_cases h : 0 ≤ code ∧ code < 30
  · obtain ⟨h0, h1⟩ := h
    obtain ⟨i, rfl⟩ := Int.eq_ofNat_of_zero_le h0
    have hm := bk_bits i (by omega)
    have hr : backBitsS i = (bitsN 2 4 i : Int) := bitsI_nat 2 4 30 i (by omega)
    have HR := Lib.hid hr; clear hr
    have h2 : (i : Int) / 2 ≤ 15 := by omega
    have h3 : 0 ≤ (i : Int) / 2 := by omega
    go_enter Try.func32, Try.ntmps32
    go_wp2
    go_ret
    rw [HR.out]
    exact ⟨rfl, rfl⟩
  · have hr : backBitsS code = -1 := if_neg h
    have HR := Lib.hid hr; clear hr
    by_cases h0 : code < 0
    · clear h
      go_enter Try.func32, Try.ntmps32
      go_wp2
      go_ret
      rw [HR.out]
      exact ⟨rfl, rfl⟩
    · have h1 : 29 < code := by omega
      clear h
      go_enter Try.func32, Try.ntmps32
      go_wp2
      go_ret
      rw [HR.out]
      exact ⟨rfl, rfl⟩
end Go.Proofs.Ythdmajhhioiaoaa
