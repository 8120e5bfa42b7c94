/- The contract of runs.step. -/
import Derived.Test.YthmlfeaoaanmoaaRunsBits
import Derived.Test.YthmlfeaoaanmoaaHeld
set_option linter.unusedVariables false
namespace Sw
/-- the most lengths of a step -/
def capI (sym : Int) : Int := if sym = 16 then 6 else if sym = 17 then 10 else 138
end Sw
namespace Go.Proofs.Ythmlfeaoaanmoaa
open Go.RowKit
open Sw
set_option maxRecDepth 100000 in
set_option maxHeartbeats 2000000 in
theorem step_any (w : World) (sym n : Int) (hs : sym = 16 ∨ sym = 17 ∨ sym = 18) (hn : leastI sym ≤ n) (hm : n ≤ 9223372036854775807) :
    Calls Try.prog 78 #[.int .i64 sym, .int .i64 n] w fun e w' => e = .returned (.tuple #[.agg #[.int .i64 sym, .int .i64 (bitsI sym), .int .i64 (min n (capI sym) - leastI sym)], .int .i64 (min n (capI sym))]) ∧ Below w.heap.size w w' := by
  rcases hs with rfl | rfl | rfl
  · have H1 := Lib.hid (fun W => bits_any W 16)
    have H2 := Lib.hid (fun W => least_any W 16)
    rw [show bitsI 16 = 2 by rfl] at H1 ⊢
    rw [show leastI 16 = 3 by rfl] at H2 hn ⊢
    rw [show capI 16 = 6 by rfl]
    obtain ⟨q, hq⟩ : ∃ q : Int, min n 6 = q := ⟨_, rfl⟩
    have hq0 : 3 ≤ q := by omega
    have hq1 : q ≤ 6 := by omega
    rw [hq]
    go_enter Try.func78, Try.ntmps78
    go_wp2_with (go_at_call 34; refine (H1.out _).mono ?_; rintro e w1 ⟨rfl, rfl⟩)
    go_quiet (first | with_reducible exact quietL (H2.out _) | exact quietL (H2.out _))
    go_wp2_with (go_at_call 60; refine (H2.out _).mono ?_; rintro e w1 ⟨rfl, rfl⟩)
    have hB := (((Blk.new w 56 #[Value.int .i64 0, Value.int .i64 0, Value.int .i64 0]).drewN nq).put 0 (.int .i64 16)).put 1 (.int .i64 2)
    have hB2 := hB.put 2 (.int .i64 (q - 3))
    refine bodyPost_ret (res_blk_tmp rfl _ _ w.heap.size 56 #[.int .i64 16, .int .i64 2, .int .i64 (q - 3)] _ rfl hB2 Try.underlying56 rfl (by kernel_rfl)) rfl ⟨rfl, ?_⟩
    exact (((below_drewN ((Below.refl w.heap.size w).alloc (Nat.le_refl _) _) nq).setCell (Nat.le_refl _) _).setCell (Nat.le_refl _) _).setCell (Nat.le_refl _) _
  · have H1 := Lib.hid (fun W => bits_any W 17)
    have H2 := Lib.hid (fun W => least_any W 17)
    rw [show bitsI 17 = 3 by rfl] at H1 ⊢
    rw [show leastI 17 = 3 by rfl] at H2 hn ⊢
    rw [show capI 17 = 10 by rfl]
    obtain ⟨q, hq⟩ : ∃ q : Int, min n 10 = q := ⟨_, rfl⟩
    have hq0 : 3 ≤ q := by omega
    have hq1 : q ≤ 10 := by omega
    rw [hq]
    go_enter Try.func78, Try.ntmps78
    go_wp2_with (go_at_call 34; refine (H1.out _).mono ?_; rintro e w1 ⟨rfl, rfl⟩)
    go_quiet (first | with_reducible exact quietL (H2.out _) | exact quietL (H2.out _))
    go_wp2_with (go_at_call 60; refine (H2.out _).mono ?_; rintro e w1 ⟨rfl, rfl⟩)
    have hB := (((Blk.new w 56 #[Value.int .i64 0, Value.int .i64 0, Value.int .i64 0]).drewN nq).put 0 (.int .i64 17)).put 1 (.int .i64 3)
    have hB2 := hB.put 2 (.int .i64 (q - 3))
    refine bodyPost_ret (res_blk_tmp rfl _ _ w.heap.size 56 #[.int .i64 17, .int .i64 3, .int .i64 (q - 3)] _ rfl hB2 Try.underlying56 rfl (by kernel_rfl)) rfl ⟨rfl, ?_⟩
    exact (((below_drewN ((Below.refl w.heap.size w).alloc (Nat.le_refl _) _) nq).setCell (Nat.le_refl _) _).setCell (Nat.le_refl _) _).setCell (Nat.le_refl _) _
  · have H1 := Lib.hid (fun W => bits_any W 18)
    have H2 := Lib.hid (fun W => least_any W 18)
    rw [show bitsI 18 = 7 by rfl] at H1 ⊢
    rw [show leastI 18 = 11 by rfl] at H2 hn ⊢
    rw [show capI 18 = 138 by rfl]
    obtain ⟨q, hq⟩ : ∃ q : Int, min n 138 = q := ⟨_, rfl⟩
    have hq0 : 11 ≤ q := by omega
    have hq1 : q ≤ 138 := by omega
    rw [hq]
    go_enter Try.func78, Try.ntmps78
    go_wp2_with (go_at_call 34; refine (H1.out _).mono ?_; rintro e w1 ⟨rfl, rfl⟩)
    go_quiet (first | with_reducible exact quietL (H2.out _) | exact quietL (H2.out _))
    go_wp2_with (go_at_call 60; refine (H2.out _).mono ?_; rintro e w1 ⟨rfl, rfl⟩)
    have hB := (((Blk.new w 56 #[Value.int .i64 0, Value.int .i64 0, Value.int .i64 0]).drewN nq).put 0 (.int .i64 18)).put 1 (.int .i64 7)
    have hB2 := hB.put 2 (.int .i64 (q - 11))
    refine bodyPost_ret (res_blk_tmp rfl _ _ w.heap.size 56 #[.int .i64 18, .int .i64 7, .int .i64 (q - 11)] _ rfl hB2 Try.underlying56 rfl (by kernel_rfl)) rfl ⟨rfl, ?_⟩
    exact (((below_drewN ((Below.refl w.heap.size w).alloc (Nat.le_refl _) _) nq).setCell (Nat.le_refl _) _).setCell (Nat.le_refl _) _).setCell (Nat.le_refl _) _
end Go.Proofs.Ythmlfeaoaanmoaa
