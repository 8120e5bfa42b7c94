/- Contracts of the reference of layer 6: distances, and the searches. -/
import Derived.Test.YthdmajhhioiaoaaSymbolRef
set_option linter.unusedVariables false
namespace Go.Proofs.Ythdmajhhioiaoaa
open Go.RowKit
open Sw
theorem bk_le30 : ∀ i : Nat, i < 31 → bgN 1 2 4 i ≤ 32769 := by decide +kernel
set_option maxRecDepth 100000 in
set_option maxHeartbeats 1000000 in
theorem refBack_any (w : World) (n : Int) (hn0 : -9223372036854775808 ≤ n) (hn1 : n ≤ 9223372036854775807) : Calls Try.prog 28 #[.int .i64 n] w fun e w' => e = .returned (signV (backS n)) ∧ Below w.heap.size w w' := by
  go_enter Try.func28, Try.ntmps28
  go_wp2_with fail
  have hS : Blk ((w.alloc (Obj.cells #[.int .i64 0, .int .i64 0, .int .i64 0] 45)).alloc (Obj.cells atB 3)) w.heap.size 45 #[.int .i64 0, .int .i64 0, .int .i64 0] := Blk.alloc (Blk.new _ _ _) _
  have hA : Blk ((w.alloc (Obj.cells #[.int .i64 0, .int .i64 0, .int .i64 0] 45)).alloc (Obj.cells atB 3)) (w.heap.size + 1) 3 atB := blk_new2 _ _ _ _
  have hb : Below w.heap.size w ((w.alloc (Obj.cells #[.int .i64 0, .int .i64 0, .int .i64 0] 45)).alloc (Obj.cells atB 3)) := ((Below.refl _ _).alloc (Nat.le_refl _) _).alloc (by simp) _
  generalize ((w.alloc (Obj.cells #[.int .i64 0, .int .i64 0, .int .i64 0] 45)).alloc (Obj.cells atB 3)) = w1 at hS hA hb ⊢
  have hat : ∀ i, i < 31 → w1.cell? ⟨w.heap.size + 1, i, none⟩ = some (.int .i64 (bgN 1 2 4 i : Nat)) := fun i hi => by rw [hA.cell]; exact row_at atB_is i hi
  have q0 := hS.cell 0
  have q1 := hS.cell 1
  have q2 := hS.cell 2
  have qf := hS.frozen
  simp at q0 q1 q2
  clear hA
  have HAT := Lib.hid hat; clear hat
  go_loop [3, 5] (fun _ t => ∃ k : Nat, k ≤ 30 ∧ t = .int .i64 k ∧ srch 1 2 4 n 30 0 = srch 1 2 4 n (30 - k) k) (fun _ t => 30 - (intOf t).toNat)
  case atStart => exact ⟨0, Nat.zero_le _, rfl, rfl⟩
  case round =>
    obtain ⟨k, hk, rfl, hsr⟩ := hrel
    by_cases hlt : k < 30
    · have hst : srch 1 2 4 n (30 - k) k = if (bgN 1 2 4 k : Int) ≤ n ∧ n < (bgN 1 2 4 (k + 1) : Int) then some k else srch 1 2 4 n (30 - (k + 1)) (k + 1) := by
        rw [show 30 - k = (30 - (k + 1)) + 1 by omega, srch]
      have c0 := HAT.out k (by omega)
      have c1 := HAT.out (k + 1) (by omega)
      have l0 := bk_le30 k (by omega)
      have l1 := bk_le30 (k + 1) (by omega)
      have hm := bk_bits k hlt
      have HSR := Lib.hid hsr; clear hsr
      have HST := Lib.hid hst; clear hst
      generalize hz : bgN 1 2 4 (k + 1) = z at *
      generalize hx : bgN 1 2 4 k = x at *
      generalize hb' : bitsN 2 4 k = b at *
      have HX := Lib.hid hx; clear hx hz
      have HB := Lib.hid hb'; clear hb'
      by_cases hxn : (x : Int) ≤ n
      · by_cases hnz : n < (z : Int)
        · have h2 : (k : Int) / 2 ≤ 15 := by omega
          have h3 : 0 ≤ (k : Int) / 2 := by omega
          go_wp2_with fail
          have hS4 := Blk.put (Blk.put (Blk.put hS 0 (.int .i64 k)) 1 (.int .i64 b)) 2 (.int .i64 (n - x))
          refine bodyPost_ret (res_blk_tmp rfl _ _ w.heap.size 45 #[.int .i64 k, .int .i64 b, .int .i64 (n - x)] _ rfl hS4 Try.underlying45 rfl (by kernel_rfl)) rfl ⟨?_, ?_⟩
          · rw [backS, HSR.out, HST.out, if_pos ⟨hxn, hnz⟩, Option.map_some, HX.out, HB.out, signV]
            rfl
          · exact (((hb.setCell (Nat.le_refl _) _).setCell (Nat.le_refl _) _).setCell (Nat.le_refl _) _)
        · go_wp2_with fail
          exact ⟨⟨k + 1, by omega, by go_num, by rw [HSR.out, HST.out, if_neg (by omega)]⟩, by simp [intOf]; omega⟩
      · go_wp2_with fail
        exact ⟨⟨k + 1, by omega, by go_num, by rw [HSR.out, HST.out, if_neg (by omega)]⟩, by simp [intOf]; omega⟩
    · obtain rfl : k = 30 := by omega
      have HSR := Lib.hid hsr; clear hsr
      go_wp2_with fail
      have hS4 := Blk.put (Blk.put (Blk.put hS 0 (.int .i64 0)) 1 (.int .i64 0)) 2 (.int .i64 0)
      refine bodyPost_ret (res_blk_tmp rfl _ _ w.heap.size 45 #[.int .i64 0, .int .i64 0, .int .i64 0] _ rfl hS4 Try.underlying45 rfl (by kernel_rfl)) rfl ⟨?_, ?_⟩
      · rw [backS, HSR.out]; rfl
      · exact (((hb.setCell (Nat.le_refl _) _).setCell (Nat.le_refl _) _).setCell (Nat.le_refl _) _)
set_option maxRecDepth 100000 in
set_option maxHeartbeats 1000000 in
theorem refBackOf_any (w : World) (code more : Int) (hm0 : -9223372036854775808 ≤ more) (hm1 : more ≤ 9223372036854775807) : Calls Try.prog 30 #[.int .i64 code, .int .i64 more] w fun e w' => e = .returned (numV (backOfS code more)) ∧ Below w.heap.size w w' := by
  go_enter Try.func30, Try.ntmps30
  go_wp2_with fail
  have hA : Blk (w.alloc (Obj.cells atB 3)) w.heap.size 3 atB := Blk.new _ _ _
  have hb : Below w.heap.size w (w.alloc (Obj.cells atB 3)) := (Below.refl _ _).alloc (Nat.le_refl _) _
  generalize w.alloc (Obj.cells atB 3) = w1 at hA hb ⊢
  have hat : ∀ i, i < 31 → w1.cell? ⟨w.heap.size, i, none⟩ = some (.int .i64 (bgN 1 2 4 i : Nat)) := fun i hi => by rw [hA.cell]; exact row_at atB_is i hi
  clear hA
  by_cases hin : 0 ≤ code ∧ code < 30
  · obtain ⟨h0, h1⟩ := hin
    obtain ⟨k, rfl⟩ := Int.eq_ofNat_of_zero_le h0
    have c0 := hat k (by omega)
    have c1 := hat (k + 1) (by omega)
    have l0 := bk_le30 k (by omega)
    have l1 := bk_le30 (k + 1) (by omega)
    have hsucc : bgN 1 2 4 (k + 1) = bgN 1 2 4 k + 2 ^ bitsN 2 4 k := rfl
    have hnum : backOfS k more = if 0 ≤ more ∧ more < ((2 ^ bitsN 2 4 k : Nat) : Int) then some ((bgN 1 2 4 k : Int) + more) else none := by
      rw [backOfS, numN, Int.toNat_natCast]
      by_cases hm : 0 ≤ more ∧ more < ((2 ^ bitsN 2 4 k : Nat) : Int)
      · rw [if_pos hm, if_pos ⟨h0, by omega, hm⟩]
      · rw [if_neg hm, if_neg (fun hh => hm ⟨hh.2.2.1, hh.2.2.2⟩)]
    have HN := Lib.hid hnum; clear hnum hat
    generalize 2 ^ bitsN 2 4 k = y at *
    generalize bgN 1 2 4 (k + 1) = z at *
    generalize bgN 1 2 4 k = x at *
    have d1 : decide ((k : Int) < 0) = false := by simp
    have d2 : decide (29 < (k : Int)) = false := by simp; omega
    have e1 : IntKind.i64.wrap ((k : Int) + 1) = (k : Int) + 1 := IntWalk.i64_in _ (by omega)
    have e2 : IntKind.i64.wrap ((z : Int) - (x : Int)) = (z : Int) - (x : Int) := IntWalk.i64_in _ (by omega)
    have t1 : ((k : Int) + 1).toNat = k + 1 := by omega
    have k0 : (0 : Int) ≤ (k : Int) := by omega
    have k1 : (k : Int) < 31 := by omega
    have k2 : (k : Int) + 1 < 31 := by omega
    have k3 : (0 : Int) ≤ (k : Int) + 1 := by omega
    by_cases hneg : more < 0
    · have d3 : decide (more < 0) = true := by simp; omega
      go_quiet (fail)
      go_wp2
      go_ret2
      rw [HN.out, if_neg (by omega)]
      exact ⟨rfl, below_drewN hb _⟩
    · have d3 : decide (more < 0) = false := by simp; omega
      by_cases hy : more < (y : Int)
      · have d4 : decide ((z : Int) - (x : Int) ≤ more) = false := by simp; omega
        go_quiet (fail)
        go_wp2
        go_ret2
        rw [HN.out, if_pos ⟨by omega, hy⟩]
        exact ⟨rfl, below_drewN hb _⟩
      · have d4 : decide ((z : Int) - (x : Int) ≤ more) = true := by simp; omega
        go_quiet (fail)
        go_wp2
        go_ret2
        rw [HN.out, if_neg (by omega)]
        exact ⟨rfl, below_drewN hb _⟩
  · have hnum : backOfS code more = none := by rw [backOfS, numN, if_neg (fun hh => hin ⟨hh.1, by omega⟩)]
    have HN := Lib.hid hnum; clear hnum hat
    by_cases h0 : code < 0
    · have d1 : decide (code < 0) = true := by simp; omega
      clear hin
      go_quiet (fail)
      go_wp2
      go_ret2
      rw [HN.out]
      exact ⟨rfl, below_drewN hb _⟩
    · have d1 : decide (code < 0) = false := by simp; omega
      have d2 : decide (29 < code) = true := by simp; omega
      clear hin
      go_quiet (fail)
      go_wp2
      go_ret2
      rw [HN.out]
      exact ⟨rfl, below_drewN hb _⟩
end Go.Proofs.Ythdmajhhioiaoaa
