/- Contracts of symbol's exported functions. -/
import Derived.Test.YthdmajhhioiaoaaSymbolScale
set_option linter.unusedVariables false
namespace Go.Proofs.Ythdmajhhioiaoaa
open Go.RowKit
open Sw
theorem longs_any (w : World) : Calls Try.prog 63 #[] w fun e w' => e = .returned (.agg #[.int .i64 3, .int .i64 4, .int .i64 8, .int .i64 28]) ∧ Below w.heap.size w w' := by
  go_enter Try.func63, Try.ntmps63
  go_wp2
  refine bodyPost_ret (results_cell_row rfl _ _ w.heap.size 87 #[.int .i64 3, .int .i64 4, .int .i64 8, .int .i64 28] (0, 0) _ rfl (Blk.new _ _ _) Try.underlying87 rfl (by kernel_rfl)) rfl ⟨rfl, (Below.refl _ _).alloc (Nat.le_refl _) _⟩
theorem distances_any (w : World) : Calls Try.prog 56 #[] w fun e w' => e = .returned (.agg #[.int .i64 1, .int .i64 2, .int .i64 4, .int .i64 30]) ∧ Below w.heap.size w w' := by
  go_enter Try.func56, Try.ntmps56
  go_wp2
  refine bodyPost_ret (results_cell_row rfl _ _ w.heap.size 87 #[.int .i64 1, .int .i64 2, .int .i64 4, .int .i64 30] (0, 0) _ rfl (Blk.new _ _ _) Try.underlying87 rfl (by kernel_rfl)) rfl ⟨rfl, (Below.refl _ _).alloc (Nat.le_refl _) _⟩
theorem longOk : ScOk 3 4 8 28 := by unfold ScOk; omega
theorem backOk : ScOk 1 2 4 30 := by unfold ScOk; omega
theorem longBits_any (w : World) (code : Int) (h0 : -9223372036854775808 ≤ code) (h1 : code ≤ 9223372036854775807) : Calls Try.prog 49 #[.int .i64 code] w fun e w' => e = .returned (.int .i64 (longBitsS code)) ∧ Below w.heap.size w w' := by
  by_cases h285 : code = 285
  · subst h285
    go_enter Try.func49, Try.ntmps49
    go_wp2_with fail
    go_ret
    exact ⟨rfl, Below.refl _ _⟩
  · have hne : (code == 285) = false := by rw [beq_eq_false_iff_ne]; exact h285
    by_cases hlt : code < 257
    · have HR := Lib.hid (show longBitsS code = -1 by rw [longBitsS, if_neg h285, if_pos hlt])
      clear h285
      go_enter Try.func49, Try.ntmps49
      go_wp2_with fail
      go_ret
      rw [HR.out]
      exact ⟨rfl, Below.refl _ _⟩
    · have HR := Lib.hid (show longBitsS code = bitsI 4 8 28 (code - 257) by rw [longBitsS, if_neg h285, if_neg hlt])
      clear h285
      go_enter Try.func49, Try.ntmps49
      go_wp2_with (first | (go_at_call 63; refine (longs_any _).mono ?_; rintro e w1 ⟨rfl, hb1⟩) | (go_at_call 59; refine (bits_any _ 3 4 8 28 (code - 257) longOk).mono ?_; rintro e w2 ⟨rfl, hb2⟩))
      go_ret
      rw [HR.out]
      exact ⟨rfl, hb1.trans (hb2.mono hb1.size)⟩
theorem backBits_any (w : World) (code : Int) : Calls Try.prog 31 #[.int .i64 code] w fun e w' => e = .returned (.int .i64 (backBitsS code)) ∧ Below w.heap.size w w' := by
  go_enter Try.func31, Try.ntmps31
  go_wp2_with (first | (go_at_call 56; refine (distances_any _).mono ?_; rintro e w1 ⟨rfl, hb1⟩) | (go_at_call 59; refine (bits_any _ 1 2 4 30 code backOk).mono ?_; rintro e w2 ⟨rfl, hb2⟩))
  go_ret
  exact ⟨rfl, hb1.trans (hb2.mono hb1.size)⟩
theorem signV_cases (x : Option (Nat × Nat × Int)) : ∃ (c b : Nat) (m : Int) (ok : Bool), signV x = .tuple #[.agg #[.int .i64 c, .int .i64 b, .int .i64 m], .bool ok] := by
  rcases x with _ | ⟨c, b, m⟩
  · exact ⟨0, 0, 0, false, rfl⟩
  · exact ⟨c, b, m, true, rfl⟩
theorem numV_cases (x : Option Int) : ∃ n b, numV x = .tuple #[.int .i64 n, .bool b] ∧ ((b = true ∧ x = some n) ∨ (b = false ∧ x = none ∧ n = 0)) := by
  cases x with
  | none => exact ⟨0, false, rfl, .inr ⟨rfl, rfl, rfl⟩⟩
  | some n => exact ⟨n, true, rfl, .inl ⟨rfl, rfl⟩⟩
theorem backOf_any (w : World) (code more : Int) : Calls Try.prog 29 #[.int .i64 code, .int .i64 more] w fun e w' => e = .returned (numV (backOfS code more)) ∧ Below w.heap.size w w' := by
  obtain ⟨n, b, hv, _⟩ := numV_cases (numN 1 2 4 30 code more)
  have h := fun W => number_any W 1 2 4 30 code more backOk
  rw [hv] at h
  have H := Lib.hid h; clear h
  have HV := Lib.hid hv; clear hv
  go_enter Try.func29, Try.ntmps29
  go_wp2_with (first | (go_at_call 56; refine (distances_any _).mono ?_; rintro e w1 ⟨rfl, hb1⟩) | (go_at_call 58; refine (H.out _).mono ?_; rintro e w2 ⟨rfl, hb2⟩))
  go_ret2
  rw [backOfS, HV.out]
  exact ⟨rfl, hb1.trans (hb2.mono hb1.size)⟩
set_option maxHeartbeats 400000 in
theorem longOf_any (w : World) (code more : Int) (h0 : -9223372036854775808 ≤ code) (h1 : code ≤ 9223372036854775807) : Calls Try.prog 47 #[.int .i64 code, .int .i64 more] w fun e w' => e = .returned (numV (longOfS code more)) ∧ Below w.heap.size w w' := by
  by_cases h285 : code = 285
  · subst h285
    by_cases hm : more = 0
    · subst hm
      go_enter Try.func47, Try.ntmps47
      go_wp2_with fail
      go_ret2
      exact ⟨rfl, Below.refl _ _⟩
    · have HR := Lib.hid (show longOfS 285 more = none by rw [longOfS, if_pos rfl, if_neg hm])
      have hne : (more == 0) = false := by rw [beq_eq_false_iff_ne]; exact hm
      clear hm
      go_enter Try.func47, Try.ntmps47
      go_wp2_with fail
      go_ret2
      rw [HR.out]
      exact ⟨rfl, Below.refl _ _⟩
  · have hne : (code == 285) = false := by rw [beq_eq_false_iff_ne]; exact h285
    by_cases hlt : code < 257
    · have HR := Lib.hid (show longOfS code more = none by rw [longOfS, if_neg h285, if_pos hlt])
      clear h285
      go_enter Try.func47, Try.ntmps47
      go_wp2_with fail
      go_ret2
      rw [HR.out]
      exact ⟨rfl, Below.refl _ _⟩
    · obtain ⟨n, b, hv, hvc⟩ := numV_cases (numN 3 4 8 28 (code - 257) more)
      have h := fun W => number_any W 3 4 8 28 (code - 257) more longOk
      rw [hv] at h
      have H := Lib.hid h; clear h hv
      have hl : longOfS code more = capL (numN 3 4 8 28 (code - 257) more) := by rw [longOfS, if_neg h285, if_neg hlt]
      have HL := Lib.hid hl; clear hl h285
      rcases hvc with ⟨rfl, hx⟩ | ⟨rfl, hx, rfl⟩
      · have HX := Lib.hid hx; clear hx
        by_cases hn : 258 ≤ n
        · go_enter Try.func47, Try.ntmps47
          go_wp2_with (first | (go_at_call 63; refine (longs_any _).mono ?_; rintro e w1 ⟨rfl, hb1⟩) | (go_at_call 58; refine (H.out _).mono ?_; rintro e w2 ⟨rfl, hb2⟩))
          go_ret2
          rw [HL.out, HX.out, capL_big n hn]
          exact ⟨rfl, hb1.trans (hb2.mono hb1.size)⟩
        · go_enter Try.func47, Try.ntmps47
          go_wp2_with (first | (go_at_call 63; refine (longs_any _).mono ?_; rintro e w1 ⟨rfl, hb1⟩) | (go_at_call 58; refine (H.out _).mono ?_; rintro e w2 ⟨rfl, hb2⟩))
          go_ret2
          rw [HL.out, HX.out, capL_small n (by omega)]
          exact ⟨rfl, hb1.trans (hb2.mono hb1.size)⟩
      · have HX := Lib.hid hx; clear hx
        go_enter Try.func47, Try.ntmps47
        go_wp2_with (first | (go_at_call 63; refine (longs_any _).mono ?_; rintro e w1 ⟨rfl, hb1⟩) | (go_at_call 58; refine (H.out _).mono ?_; rintro e w2 ⟨rfl, hb2⟩))
        go_ret2
        rw [HL.out, HX.out, capL_none]
        exact ⟨rfl, hb1.trans (hb2.mono hb1.size)⟩
theorem back_any (w : World) (n : Int) (hn0 : -9223372036854775808 ≤ n) (hn1 : n ≤ 9223372036854775807) : Calls Try.prog 27 #[.int .i64 n] w fun e w' => e = .returned (signV (backS n)) ∧ Below w.heap.size w w' := by
  obtain ⟨c, b, m, ok, hv⟩ := signV_cases ((srch 1 2 4 n 30 0).map fun k => (k, bitsN 2 4 k, n - (bgN 1 2 4 k : Int)))
  have h := fun W => sign_any W 1 2 4 30 n backOk hn0 hn1
  rw [hv] at h
  have H := Lib.hid h; clear h
  have HV := Lib.hid hv; clear hv
  go_enter Try.func27, Try.ntmps27
  go_wp2_with fail
  refine (distances_any _).mono ?_
  rintro e w1 ⟨rfl, hb1⟩
  go_wp2_with fail
  refine (H.out _).mono ?_
  rintro e w2 ⟨rfl, hb2⟩
  have hbw1 := ((Below.refl w.heap.size w).alloc (Nat.le_refl _) (Obj.cells #[.int .i64 0, .int .i64 0, .int .i64 0] 42)).trans (hb1.mono (by simp))
  have hbw2 := hbw1.trans (hb2.mono hbw1.size)
  have hS := (Blk.below (Blk.new w 42 #[.int .i64 0, .int .i64 0, .int .i64 0]) hb1 (by simp)).below hb2 (by have := hb1.size; simp at this; omega)
  have q0 := hS.cell 0
  have q1 := hS.cell 1
  have q2 := hS.cell 2
  have qf := hS.frozen
  simp at q0 q1 q2
  go_wp2_with fail
  have hS4 := Blk.put (Blk.put (Blk.put hS 0 (.int .i64 c)) 1 (.int .i64 b)) 2 (.int .i64 m)
  refine bodyPost_ret (res_blk_tmp rfl _ _ w.heap.size 42 #[.int .i64 c, .int .i64 b, .int .i64 m] _ rfl hS4 Try.underlying42 rfl (by kernel_rfl)) rfl ⟨?_, ?_⟩
  · rw [backS, HV.out]; rfl
  · exact ((hbw2.setCell (Nat.le_refl _) _).setCell (Nat.le_refl _) _).setCell (Nat.le_refl _) _
set_option maxHeartbeats 400000 in
theorem long_any (w : World) (n : Int) (hn0 : -9223372036854775808 ≤ n) (hn1 : n ≤ 9223372036854775807) : Calls Try.prog 45 #[.int .i64 n] w fun e w' => e = .returned (signV (longS n)) ∧ Below w.heap.size w w' := by
  by_cases h258 : n = 258
  · subst h258
    go_enter Try.func45, Try.ntmps45
    go_wp2_with fail
    refine bodyPost_ret (res_blk_tmp rfl _ _ w.heap.size 42 #[.int .i64 285, .int .i64 0, .int .i64 0] _ rfl (Blk.new _ _ _) Try.underlying42 rfl (by kernel_rfl)) rfl ⟨rfl, (Below.refl _ _).alloc (Nat.le_refl _) _⟩
  · have hne : (n == 258) = false := by rw [beq_eq_false_iff_ne]; exact h258
    have hl : longS n = (srch 3 4 8 n 28 0).map fun k => (k + 257, bitsN 4 8 k, n - (bgN 3 4 8 k : Int)) := by rw [longS, if_neg h258]
    have HL := Lib.hid hl; clear hl h258
    have h := fun W => sign_any W 3 4 8 28 n longOk hn0 hn1
    have hso := fun c => srch_some 3 4 8 n 28 0 c
    cases hs : srch 3 4 8 n 28 0 with
    | none =>
      rw [hs] at h HL
      have H := Lib.hid h; clear h hs hso
      go_enter Try.func45, Try.ntmps45
      go_wp2_with fail
      refine (longs_any _).mono ?_
      rintro e w1 ⟨rfl, hb1⟩
      go_wp2_with fail
      refine (H.out _).mono ?_
      rintro e w2 ⟨rfl, hb2⟩
      unfold signV
      have hbw1 := ((Below.refl w.heap.size w).alloc (Nat.le_refl _) (Obj.cells #[.int .i64 0, .int .i64 0, .int .i64 0] 42)).trans (hb1.mono (by simp))
      have hbw2 := hbw1.trans (hb2.mono hbw1.size)
      have hS := (Blk.below (Blk.new w 42 #[.int .i64 0, .int .i64 0, .int .i64 0]) hb1 (by simp)).below hb2 (by have := hb1.size; simp at this; omega)
      have q0 := (hS.alloc (Obj.cells #[.int .i64 0, .int .i64 0, .int .i64 0] 42)).cell 0
      have q1 := (hS.alloc (Obj.cells #[.int .i64 0, .int .i64 0, .int .i64 0] 42)).cell 1
      have q2 := (hS.alloc (Obj.cells #[.int .i64 0, .int .i64 0, .int .i64 0] 42)).cell 2
      have qf := (hS.alloc (Obj.cells #[.int .i64 0, .int .i64 0, .int .i64 0] 42)).frozen
      simp at q0 q1 q2
      go_wp2_with fail
      have hS4 := Blk.put (Blk.put (Blk.put (hS.alloc (Obj.cells #[.int .i64 0, .int .i64 0, .int .i64 0] 42)) 0 (.int .i64 0)) 1 (.int .i64 0)) 2 (.int .i64 0)
      refine bodyPost_ret (res_blk_tmp rfl _ _ w.heap.size 42 #[.int .i64 0, .int .i64 0, .int .i64 0] _ rfl hS4 Try.underlying42 rfl (by kernel_rfl)) rfl ⟨?_, ?_⟩
      · rw [HL.out]; rfl
      · exact ((((hbw2.alloc hbw2.size _).setCell (Nat.le_refl _) _).setCell (Nat.le_refl _) _).setCell (Nat.le_refl _) _)
    | some k =>
      obtain ⟨_, hk, _, _⟩ := hso k hs
      rw [hs] at h HL
      have H := Lib.hid h; clear h hs hso
      go_enter Try.func45, Try.ntmps45
      go_wp2_with fail
      refine (longs_any _).mono ?_
      rintro e w1 ⟨rfl, hb1⟩
      go_wp2_with fail
      refine (H.out _).mono ?_
      rintro e w2 ⟨rfl, hb2⟩
      unfold signV
      have hbw1 := ((Below.refl w.heap.size w).alloc (Nat.le_refl _) (Obj.cells #[.int .i64 0, .int .i64 0, .int .i64 0] 42)).trans (hb1.mono (by simp))
      have hbw2 := hbw1.trans (hb2.mono hbw1.size)
      have hS := (Blk.below (Blk.new w 42 #[.int .i64 0, .int .i64 0, .int .i64 0]) hb1 (by simp)).below hb2 (by have := hb1.size; simp at this; omega)
      have hne2 : w.heap.size ≠ w2.heap.size := by have := hb1.size; have := hb2.size; simp at *; omega
      have hfin : longS n = some (k + 257, bitsN 4 8 k, n - (bgN 3 4 8 k : Int)) := HL.out
      have HF := Lib.hid hfin; clear hfin HL H
      simp only [Option.map_some]
      generalize bitsN 4 8 k = b at *
      generalize n - (bgN 3 4 8 k : Int) = m at *
      have q0 : ∀ o, (w2.alloc o).cell? ⟨w.heap.size, 0, none⟩ = some (.int .i64 0) := fun o => (hS.alloc o).cell 0
      have q1 : ∀ o, (w2.alloc o).cell? ⟨w.heap.size, 1, none⟩ = some (.int .i64 0) := fun o => (hS.alloc o).cell 1
      have q2 : ∀ o, (w2.alloc o).cell? ⟨w.heap.size, 2, none⟩ = some (.int .i64 0) := fun o => (hS.alloc o).cell 2
      have qf : ∀ o i, (w2.alloc o).frozen? ⟨w.heap.size, i, none⟩ = false := fun o i => (hS.alloc o).frozen i
      have hk2 : (k : Int) < 28 := by omega
      go_wp2_with fail
      have hS4 := Blk.put (Blk.put (Blk.put (hS.alloc (Obj.cells #[.int .i64 (k + 257), .int .i64 b, .int .i64 m] 42)) 0 (.int .i64 (k + 257))) 1 (.int .i64 b)) 2 (.int .i64 m)
      refine bodyPost_ret (res_blk_tmp rfl _ _ w.heap.size 42 #[.int .i64 (k + 257), .int .i64 b, .int .i64 m] _ rfl hS4 Try.underlying42 rfl (by kernel_rfl)) rfl ⟨?_, ?_⟩
      · rw [HF.out]; rfl
      · exact ((((hbw2.alloc hbw2.size _).setCell (Nat.le_refl _) _).setCell (Nat.le_refl _) _).setCell (Nat.le_refl _) _)
end Go.Proofs.Ythdmajhhioiaoaa
