/- Several texts, joined for the limit of sixty files; each one opens with its own comment. -/
import Derived.Test.YtnpehjgnplaabaaGreatDoorJoin44
import Derived.Test.YtnpehjgnplaabaaGreatDoorJoin1
import Derived.Test.YtnpehjgnplaabaaGreatDoorJoin18
/- Several texts, joined for the limit of sixty files; each one opens with its own comment. -/
/- region.Name, and law 31's RegionSides. -/
set_option linter.unusedVariables false
set_option linter.unusedSimpArgs false
namespace Go.Proofs.YtnpehjgnplaabaaGreatDoor
open Go Go.RowKit
open Sw
theorem index_name0 (W : World) : (Instr.index 104 (.agg #[.string ⟨#[115, 107, 105, 112]⟩, .string ⟨#[108, 101, 102, 116]⟩, .string ⟨#[114, 105, 103, 104, 116]⟩, .string ⟨#[110, 101, 119, 101, 114]⟩]) (.int .i64 0)).run Tryz.prog W = .ok (.string ⟨#[115, 107, 105, 112]⟩) W := by
  simp [Instr.index, run_underlying Tryz.underlying104, asIntOf, part, go_sem, Tryz.underlying9, Tryz.sizeOf9]
theorem index_name1 (W : World) : (Instr.index 104 (.agg #[.string ⟨#[115, 107, 105, 112]⟩, .string ⟨#[108, 101, 102, 116]⟩, .string ⟨#[114, 105, 103, 104, 116]⟩, .string ⟨#[110, 101, 119, 101, 114]⟩]) (.int .i64 1)).run Tryz.prog W = .ok (.string ⟨#[108, 101, 102, 116]⟩) W := by
  simp [Instr.index, run_underlying Tryz.underlying104, asIntOf, part, go_sem, Tryz.underlying9, Tryz.sizeOf9]
theorem index_name2 (W : World) : (Instr.index 104 (.agg #[.string ⟨#[115, 107, 105, 112]⟩, .string ⟨#[108, 101, 102, 116]⟩, .string ⟨#[114, 105, 103, 104, 116]⟩, .string ⟨#[110, 101, 119, 101, 114]⟩]) (.int .i64 2)).run Tryz.prog W = .ok (.string ⟨#[114, 105, 103, 104, 116]⟩) W := by
  simp [Instr.index, run_underlying Tryz.underlying104, asIntOf, part, go_sem, Tryz.underlying9, Tryz.sizeOf9]
theorem index_name3 (W : World) : (Instr.index 104 (.agg #[.string ⟨#[115, 107, 105, 112]⟩, .string ⟨#[108, 101, 102, 116]⟩, .string ⟨#[114, 105, 103, 104, 116]⟩, .string ⟨#[110, 101, 119, 101, 114]⟩]) (.int .i64 3)).run Tryz.prog W = .ok (.string ⟨#[110, 101, 119, 101, 114]⟩) W := by
  simp [Instr.index, run_underlying Tryz.underlying104, asIntOf, part, go_sem, Tryz.underlying9, Tryz.sizeOf9]
set_option maxRecDepth 100000 in
set_option maxHeartbeats 4000000 in
theorem regName0_any (w : World) : Calls Tryz.prog 16 #[.int .i64 0] w fun e w' => e = .returned (.string ⟨#[115, 107, 105, 112]⟩) ∧ w' = w := by
  have HP := Lib.hid (regPolicy_any w 0)
  rw [decide_eq_true (show (0 : Int) ≤ 0 ∧ (0 : Int) ≤ 3 by decide)] at HP
  have hix := index_name0
  go_enter Tryz.func16, Tryz.ntmps16
  go_wp2_with fail
  refine HP.out.mono ?_
  rintro e w1 ⟨rfl, rfl⟩
  go_wp2_with fail
  go_ret
  exact ⟨rfl, rfl⟩
set_option maxRecDepth 100000 in
set_option maxHeartbeats 4000000 in
theorem regName1_any (w : World) : Calls Tryz.prog 16 #[.int .i64 1] w fun e w' => e = .returned (.string ⟨#[108, 101, 102, 116]⟩) ∧ w' = w := by
  have HP := Lib.hid (regPolicy_any w 1)
  rw [decide_eq_true (show (0 : Int) ≤ 1 ∧ (1 : Int) ≤ 3 by decide)] at HP
  have hix := index_name1
  go_enter Tryz.func16, Tryz.ntmps16
  go_wp2_with fail
  refine HP.out.mono ?_
  rintro e w1 ⟨rfl, rfl⟩
  go_wp2_with fail
  go_ret
  exact ⟨rfl, rfl⟩
set_option maxRecDepth 100000 in
set_option maxHeartbeats 4000000 in
theorem regName2_any (w : World) : Calls Tryz.prog 16 #[.int .i64 2] w fun e w' => e = .returned (.string ⟨#[114, 105, 103, 104, 116]⟩) ∧ w' = w := by
  have HP := Lib.hid (regPolicy_any w 2)
  rw [decide_eq_true (show (0 : Int) ≤ 2 ∧ (2 : Int) ≤ 3 by decide)] at HP
  have hix := index_name2
  go_enter Tryz.func16, Tryz.ntmps16
  go_wp2_with fail
  refine HP.out.mono ?_
  rintro e w1 ⟨rfl, rfl⟩
  go_wp2_with fail
  go_ret
  exact ⟨rfl, rfl⟩
set_option maxRecDepth 100000 in
set_option maxHeartbeats 4000000 in
theorem regName3_any (w : World) : Calls Tryz.prog 16 #[.int .i64 3] w fun e w' => e = .returned (.string ⟨#[110, 101, 119, 101, 114]⟩) ∧ w' = w := by
  have HP := Lib.hid (regPolicy_any w 3)
  rw [decide_eq_true (show (0 : Int) ≤ 3 ∧ (3 : Int) ≤ 3 by decide)] at HP
  have hix := index_name3
  go_enter Tryz.func16, Tryz.ntmps16
  go_wp2_with fail
  refine HP.out.mono ?_
  rintro e w1 ⟨rfl, rfl⟩
  go_wp2_with fail
  go_ret
  exact ⟨rfl, rfl⟩
set_option maxRecDepth 100000 in
set_option maxHeartbeats 4000000 in
theorem regNameX_any (w : World) (p : Int) (h : ¬ (0 ≤ p ∧ p ≤ 3)) : Calls Tryz.prog 16 #[.int .i64 p] w fun e w' => e = .returned (.string ⟨#[]⟩) ∧ w' = w := by
  have HP := Lib.hid (regPolicy_any w p)
  rw [decide_eq_false h] at HP
  clear h
  go_enter Tryz.func16, Tryz.ntmps16
  go_wp2_with fail
  refine HP.out.mono ?_
  rintro e w1 ⟨rfl, rfl⟩
  go_wp2_with fail
  go_ret
  exact ⟨rfl, rfl⟩
set_option maxRecDepth 100000 in
set_option maxHeartbeats 16000000 in
theorem regionSides_main (w : World) (p : Int) (u v : Value) (a b : List NE) (ha : SlV w 5 eCSN u a) (hb : SlV w 5 eCSN v b) :
    Calls Tryz.prog 4 #[.int .i64 p, u, v] w fun e w' => e = .returned (.bool true) ∧ Below w.heap.size w w' := by
  have HN1 := Lib.hid (fun V (hV : Below w.heap.size w V) => regNewest_any V u a (ha.below hV (Nat.le_refl _)))
  have HN2 := Lib.hid (fun V (hV : Below w.heap.size w V) => refNewest_any V u a (ha.below hV (Nat.le_refl _)))
  have HS1 := Lib.hid (fun V (hV : Below w.heap.size w V) => regSide_any V p u v a b (ha.below hV (Nat.le_refl _)) (hb.below hV (Nat.le_refl _)))
  have HS2 := Lib.hid (fun V (hV : Below w.heap.size w V) => refSide_any V p u v a b (ha.below hV (Nat.le_refl _)) (hb.below hV (Nat.le_refl _)))
  obtain ⟨A1, c1, rfl, -, -, -⟩ := ha
  obtain ⟨A2, c2, rfl, -, -, -⟩ := hb
  obtain ⟨n1, hn1⟩ : ∃ n, a.length = n := ⟨_, rfl⟩
  obtain ⟨n2, hn2⟩ : ∃ n, b.length = n := ⟨_, rfl⟩
  obtain ⟨sd, hsd⟩ : ∃ s, sideN p a b = s := ⟨_, rfl⟩
  obtain ⟨nw, hnw⟩ : ∃ s, newN a = s := ⟨_, rfl⟩
  rw [hn1] at HN1 HN2 HS1 HS2 ⊢
  rw [hn2] at HS1 HS2 ⊢
  rw [hsd] at HS1 HS2
  rw [hnw] at HN1 HN2
  clear hn1 hn2 hsd hnw
  have hshort : (¬ ((n1 : Int) ≤ 30 ∧ (n2 : Int) ≤ 30)) → Calls Tryz.prog 4 #[.int .i64 p, .slice A1 n1 c1, .slice A2 n2 c2] w fun e w' => e = .returned (.bool true) ∧ Below w.heap.size w w' := by
    intro h
    by_cases h1 : (n1 : Int) ≤ 30
    · have h2 : ¬ (n2 : Int) ≤ 30 := fun h2 => h ⟨h1, h2⟩
      have h1' : ¬ (30 : Int) < n1 := by omega
      have h2' : (30 : Int) < n2 := by omega
      clear h h1 h2
      go_enter Tryz.func4, Tryz.ntmps4
      go_wp2_with fail
      refine (regLives_any w).mono ?_
      rintro e w6 ⟨rfl, hb6⟩
      have H6 := Lib.hid hb6
      clear hb6
      go_wp2_with fail
      go_ret
      exact ⟨rfl, H6.out⟩
    · have h1' : (30 : Int) < n1 := by omega
      clear h h1
      go_enter Tryz.func4, Tryz.ntmps4
      go_wp2_with fail
      refine (regLives_any w).mono ?_
      rintro e w6 ⟨rfl, hb6⟩
      have H6 := Lib.hid hb6
      clear hb6
      go_wp2_with fail
      go_ret
      exact ⟨rfl, H6.out⟩
  by_cases hl : (n1 : Int) ≤ 30 ∧ (n2 : Int) ≤ 30
  case neg => exact hshort hl
  have g1 : ¬ (30 : Int) < n1 := by omega
  have g2 : ¬ (30 : Int) < n2 := by omega
  clear hshort hl
  by_cases hp : 0 ≤ p ∧ p ≤ 3
  · have hp4 : p = 0 ∨ p = 1 ∨ p = 2 ∨ p = 3 := by omega
    clear hp
    rcases hp4 with rfl | rfl | rfl | rfl
    · have HPO := Lib.hid (fun V => regPolicy_any V 0)
      simp only [decide_eq_true (show (0 : Int) ≤ 0 ∧ (0 : Int) ≤ 3 by decide)] at HPO
      have HNM := Lib.hid regName0_any
      obtain ⟨W, hW⟩ : ∃ W, w.alloc (.cells #[.string ⟨#[115, 107, 105, 112]⟩, .string ⟨#[108, 101, 102, 116]⟩, .string ⟨#[114, 105, 103, 104, 116]⟩, .string ⟨#[110, 101, 119, 101, 114]⟩] 9) = W := ⟨_, rfl⟩
      have HB0 := Lib.hid (show Below w.heap.size w W by rw [← hW]; exact (Below.refl _ w).alloc (Nat.le_refl _) _)
      have hBW : Blk W w.heap.size 9 #[.string ⟨#[115, 107, 105, 112]⟩, .string ⟨#[108, 101, 102, 116]⟩, .string ⟨#[114, 105, 103, 104, 116]⟩, .string ⟨#[110, 101, 119, 101, 114]⟩] := by rw [← hW]; exact Blk.new _ _ _
      have x0 := hBW.cell 0
      simp only [List.getElem?_toArray, List.getElem?_cons_succ, List.getElem?_cons_zero] at x0
      clear hBW
      go_enter Tryz.func4, Tryz.ntmps4
      go_wp2_with fail
      refine (HPO.out _).mono ?_
      rintro e w1 ⟨rfl, rfl⟩
      go_wp2_with fail
      refine (HNM.out _).mono ?_
      rintro e w1 ⟨rfl, rfl⟩
      go_wp2_with fail
      refine (HN1.out _ HB0.out).mono ?_
      rintro e w2 ⟨rfl, hb2⟩
      have H2 := Lib.hid (HB0.out.trans (hb2.mono HB0.out.size))
      clear hb2
      go_wp2_with fail
      refine (HN2.out _ H2.out).mono ?_
      rintro e w3 ⟨rfl, hb3⟩
      have H3 := Lib.hid (H2.out.trans (hb3.mono H2.out.size))
      clear hb3
      go_wp2_with fail
      refine (HS1.out _ H3.out).mono ?_
      rintro e w4 ⟨rfl, hb4⟩
      have H4 := Lib.hid (H3.out.trans (hb4.mono H3.out.size))
      clear hb4
      go_wp2_with fail
      refine (HS2.out _ H4.out).mono ?_
      rintro e w5 ⟨rfl, hb5⟩
      have H5 := Lib.hid (H4.out.trans (hb5.mono H4.out.size))
      clear hb5
      go_wp2_with fail
      refine (regLives_any w5).mono ?_
      rintro e w6 ⟨rfl, hb6⟩
      have H6 := Lib.hid (H5.out.trans (hb6.mono H5.out.size))
      clear hb6
      go_wp2_with fail
      go_ret
      exact ⟨rfl, H6.out⟩
    · have HPO := Lib.hid (fun V => regPolicy_any V 1)
      simp only [decide_eq_true (show (0 : Int) ≤ 1 ∧ (1 : Int) ≤ 3 by decide)] at HPO
      have HNM := Lib.hid regName1_any
      obtain ⟨W, hW⟩ : ∃ W, w.alloc (.cells #[.string ⟨#[115, 107, 105, 112]⟩, .string ⟨#[108, 101, 102, 116]⟩, .string ⟨#[114, 105, 103, 104, 116]⟩, .string ⟨#[110, 101, 119, 101, 114]⟩] 9) = W := ⟨_, rfl⟩
      have HB0 := Lib.hid (show Below w.heap.size w W by rw [← hW]; exact (Below.refl _ w).alloc (Nat.le_refl _) _)
      have hBW : Blk W w.heap.size 9 #[.string ⟨#[115, 107, 105, 112]⟩, .string ⟨#[108, 101, 102, 116]⟩, .string ⟨#[114, 105, 103, 104, 116]⟩, .string ⟨#[110, 101, 119, 101, 114]⟩] := by rw [← hW]; exact Blk.new _ _ _
      have x0 := hBW.cell 1
      simp only [List.getElem?_toArray, List.getElem?_cons_succ, List.getElem?_cons_zero] at x0
      clear hBW
      go_enter Tryz.func4, Tryz.ntmps4
      go_wp2_with fail
      refine (HPO.out _).mono ?_
      rintro e w1 ⟨rfl, rfl⟩
      go_wp2_with fail
      refine (HNM.out _).mono ?_
      rintro e w1 ⟨rfl, rfl⟩
      go_wp2_with fail
      refine (HN1.out _ HB0.out).mono ?_
      rintro e w2 ⟨rfl, hb2⟩
      have H2 := Lib.hid (HB0.out.trans (hb2.mono HB0.out.size))
      clear hb2
      go_wp2_with fail
      refine (HN2.out _ H2.out).mono ?_
      rintro e w3 ⟨rfl, hb3⟩
      have H3 := Lib.hid (H2.out.trans (hb3.mono H2.out.size))
      clear hb3
      go_wp2_with fail
      refine (HS1.out _ H3.out).mono ?_
      rintro e w4 ⟨rfl, hb4⟩
      have H4 := Lib.hid (H3.out.trans (hb4.mono H3.out.size))
      clear hb4
      go_wp2_with fail
      refine (HS2.out _ H4.out).mono ?_
      rintro e w5 ⟨rfl, hb5⟩
      have H5 := Lib.hid (H4.out.trans (hb5.mono H4.out.size))
      clear hb5
      go_wp2_with fail
      refine (regLives_any w5).mono ?_
      rintro e w6 ⟨rfl, hb6⟩
      have H6 := Lib.hid (H5.out.trans (hb6.mono H5.out.size))
      clear hb6
      go_wp2_with fail
      go_ret
      exact ⟨rfl, H6.out⟩
    · have HPO := Lib.hid (fun V => regPolicy_any V 2)
      simp only [decide_eq_true (show (0 : Int) ≤ 2 ∧ (2 : Int) ≤ 3 by decide)] at HPO
      have HNM := Lib.hid regName2_any
      obtain ⟨W, hW⟩ : ∃ W, w.alloc (.cells #[.string ⟨#[115, 107, 105, 112]⟩, .string ⟨#[108, 101, 102, 116]⟩, .string ⟨#[114, 105, 103, 104, 116]⟩, .string ⟨#[110, 101, 119, 101, 114]⟩] 9) = W := ⟨_, rfl⟩
      have HB0 := Lib.hid (show Below w.heap.size w W by rw [← hW]; exact (Below.refl _ w).alloc (Nat.le_refl _) _)
      have hBW : Blk W w.heap.size 9 #[.string ⟨#[115, 107, 105, 112]⟩, .string ⟨#[108, 101, 102, 116]⟩, .string ⟨#[114, 105, 103, 104, 116]⟩, .string ⟨#[110, 101, 119, 101, 114]⟩] := by rw [← hW]; exact Blk.new _ _ _
      have x0 := hBW.cell 2
      simp only [List.getElem?_toArray, List.getElem?_cons_succ, List.getElem?_cons_zero] at x0
      clear hBW
      go_enter Tryz.func4, Tryz.ntmps4
      go_wp2_with fail
      refine (HPO.out _).mono ?_
      rintro e w1 ⟨rfl, rfl⟩
      go_wp2_with fail
      refine (HNM.out _).mono ?_
      rintro e w1 ⟨rfl, rfl⟩
      go_wp2_with fail
      refine (HN1.out _ HB0.out).mono ?_
      rintro e w2 ⟨rfl, hb2⟩
      have H2 := Lib.hid (HB0.out.trans (hb2.mono HB0.out.size))
      clear hb2
      go_wp2_with fail
      refine (HN2.out _ H2.out).mono ?_
      rintro e w3 ⟨rfl, hb3⟩
      have H3 := Lib.hid (H2.out.trans (hb3.mono H2.out.size))
      clear hb3
      go_wp2_with fail
      refine (HS1.out _ H3.out).mono ?_
      rintro e w4 ⟨rfl, hb4⟩
      have H4 := Lib.hid (H3.out.trans (hb4.mono H3.out.size))
      clear hb4
      go_wp2_with fail
      refine (HS2.out _ H4.out).mono ?_
      rintro e w5 ⟨rfl, hb5⟩
      have H5 := Lib.hid (H4.out.trans (hb5.mono H4.out.size))
      clear hb5
      go_wp2_with fail
      refine (regLives_any w5).mono ?_
      rintro e w6 ⟨rfl, hb6⟩
      have H6 := Lib.hid (H5.out.trans (hb6.mono H5.out.size))
      clear hb6
      go_wp2_with fail
      go_ret
      exact ⟨rfl, H6.out⟩
    · have HPO := Lib.hid (fun V => regPolicy_any V 3)
      simp only [decide_eq_true (show (0 : Int) ≤ 3 ∧ (3 : Int) ≤ 3 by decide)] at HPO
      have HNM := Lib.hid regName3_any
      obtain ⟨W, hW⟩ : ∃ W, w.alloc (.cells #[.string ⟨#[115, 107, 105, 112]⟩, .string ⟨#[108, 101, 102, 116]⟩, .string ⟨#[114, 105, 103, 104, 116]⟩, .string ⟨#[110, 101, 119, 101, 114]⟩] 9) = W := ⟨_, rfl⟩
      have HB0 := Lib.hid (show Below w.heap.size w W by rw [← hW]; exact (Below.refl _ w).alloc (Nat.le_refl _) _)
      have hBW : Blk W w.heap.size 9 #[.string ⟨#[115, 107, 105, 112]⟩, .string ⟨#[108, 101, 102, 116]⟩, .string ⟨#[114, 105, 103, 104, 116]⟩, .string ⟨#[110, 101, 119, 101, 114]⟩] := by rw [← hW]; exact Blk.new _ _ _
      have x0 := hBW.cell 3
      simp only [List.getElem?_toArray, List.getElem?_cons_succ, List.getElem?_cons_zero] at x0
      clear hBW
      go_enter Tryz.func4, Tryz.ntmps4
      go_wp2_with fail
      refine (HPO.out _).mono ?_
      rintro e w1 ⟨rfl, rfl⟩
      go_wp2_with fail
      refine (HNM.out _).mono ?_
      rintro e w1 ⟨rfl, rfl⟩
      go_wp2_with fail
      refine (HN1.out _ HB0.out).mono ?_
      rintro e w2 ⟨rfl, hb2⟩
      have H2 := Lib.hid (HB0.out.trans (hb2.mono HB0.out.size))
      clear hb2
      go_wp2_with fail
      refine (HN2.out _ H2.out).mono ?_
      rintro e w3 ⟨rfl, hb3⟩
      have H3 := Lib.hid (H2.out.trans (hb3.mono H2.out.size))
      clear hb3
      go_wp2_with fail
      refine (HS1.out _ H3.out).mono ?_
      rintro e w4 ⟨rfl, hb4⟩
      have H4 := Lib.hid (H3.out.trans (hb4.mono H3.out.size))
      clear hb4
      go_wp2_with fail
      refine (HS2.out _ H4.out).mono ?_
      rintro e w5 ⟨rfl, hb5⟩
      have H5 := Lib.hid (H4.out.trans (hb5.mono H4.out.size))
      clear hb5
      go_wp2_with fail
      refine (regLives_any w5).mono ?_
      rintro e w6 ⟨rfl, hb6⟩
      have H6 := Lib.hid (H5.out.trans (hb6.mono H5.out.size))
      clear hb6
      go_wp2_with fail
      go_ret
      exact ⟨rfl, H6.out⟩
  · have HPO := Lib.hid (fun V => regPolicy_any V p)
    simp only [decide_eq_false hp] at HPO
    have HNM := Lib.hid (fun V => regNameX_any V p hp)
    have HB0 := Lib.hid (Below.refl w.heap.size w)
    by_cases h0 : 0 ≤ p
    · have h3 : ¬ p ≤ 3 := fun h => hp ⟨h0, h⟩
      clear hp
      go_enter Tryz.func4, Tryz.ntmps4
      go_wp2_with fail
      refine (HPO.out _).mono ?_
      rintro e w1 ⟨rfl, rfl⟩
      go_wp2_with fail
      refine (HNM.out _).mono ?_
      rintro e w1 ⟨rfl, rfl⟩
      go_wp2_with fail
      refine (HN1.out _ HB0.out).mono ?_
      rintro e w2 ⟨rfl, hb2⟩
      have H2 := Lib.hid (HB0.out.trans (hb2.mono HB0.out.size))
      clear hb2
      go_wp2_with fail
      refine (HN2.out _ H2.out).mono ?_
      rintro e w3 ⟨rfl, hb3⟩
      have H3 := Lib.hid (H2.out.trans (hb3.mono H2.out.size))
      clear hb3
      go_wp2_with fail
      refine (HS1.out _ H3.out).mono ?_
      rintro e w4 ⟨rfl, hb4⟩
      have H4 := Lib.hid (H3.out.trans (hb4.mono H3.out.size))
      clear hb4
      go_wp2_with fail
      refine (HS2.out _ H4.out).mono ?_
      rintro e w5 ⟨rfl, hb5⟩
      have H5 := Lib.hid (H4.out.trans (hb5.mono H4.out.size))
      clear hb5
      go_wp2_with fail
      refine (regLives_any w5).mono ?_
      rintro e w6 ⟨rfl, hb6⟩
      have H6 := Lib.hid (H5.out.trans (hb6.mono H5.out.size))
      clear hb6
      go_wp2_with fail
      go_ret
      exact ⟨rfl, H6.out⟩
    · clear hp
      go_enter Tryz.func4, Tryz.ntmps4
      go_wp2_with fail
      refine (HPO.out _).mono ?_
      rintro e w1 ⟨rfl, rfl⟩
      go_wp2_with fail
      refine (HNM.out _).mono ?_
      rintro e w1 ⟨rfl, rfl⟩
      go_wp2_with fail
      refine (HN1.out _ HB0.out).mono ?_
      rintro e w2 ⟨rfl, hb2⟩
      have H2 := Lib.hid (HB0.out.trans (hb2.mono HB0.out.size))
      clear hb2
      go_wp2_with fail
      refine (HN2.out _ H2.out).mono ?_
      rintro e w3 ⟨rfl, hb3⟩
      have H3 := Lib.hid (H2.out.trans (hb3.mono H2.out.size))
      clear hb3
      go_wp2_with fail
      refine (HS1.out _ H3.out).mono ?_
      rintro e w4 ⟨rfl, hb4⟩
      have H4 := Lib.hid (H3.out.trans (hb4.mono H3.out.size))
      clear hb4
      go_wp2_with fail
      refine (HS2.out _ H4.out).mono ?_
      rintro e w5 ⟨rfl, hb5⟩
      have H5 := Lib.hid (H4.out.trans (hb5.mono H4.out.size))
      clear hb5
      go_wp2_with fail
      refine (regLives_any w5).mono ?_
      rintro e w6 ⟨rfl, hb6⟩
      have H6 := Lib.hid (H5.out.trans (hb6.mono H5.out.size))
      clear hb6
      go_wp2_with fail
      go_ret
      exact ⟨rfl, H6.out⟩
end Go.Proofs.YtnpehjgnplaabaaGreatDoor
/- The walk of RegionSides in the statement's form. -/
set_option linter.unusedVariables false
set_option linter.unusedSimpArgs false
namespace Go.Proofs.YtnpehjgnplaabaaGreatDoor
open Go Go.ChangeShapes Go.WideShapes Go.ChangeAt Go.RowKit
open Sw
set_option maxRecDepth 100000 in
theorem regionSides_walk : Walks 4 Tryz.f4 := by
  intro H enc W base args ds ps hval hA hlt hsz
  rw [Tryz.params4] at hA hval
  obtain ⟨v0, v1, v2, d0, d1, d2, p0, p1, p2, rfl, rfl, rfl, h0, h1, h2⟩ := trodAll_three hA
  obtain ⟨p, rfl, rfl, rfl, wp⟩ := open_int Tryz.underlying3 (hval 0 3 v0 rfl rfl) h0
  obtain ⟨A, n, c, xs, rfl, hnc, hcm, hl, hsl, hv, _⟩ := open_slice_dec (size := 5) eCSN NEIn Tryz.underlying25 (by kernel_rfl) (by omega) dec_item (hval 1 25 v1 rfl rfl) h1
  obtain ⟨A', n', c', ys, rfl, hnc', hcm', hl', hsl', hv', _⟩ := open_slice_dec (size := 5) eCSN NEIn Tryz.underlying25 (by kernel_rfl) (by omega) dec_item (hval 2 25 v2 rfl rfl) h2
  subst hl hl'
  exact regionSides_main W p _ _ xs ys ⟨A, c, rfl, hnc, hcm, hsl⟩ ⟨A', c', rfl, hnc', hcm', hsl'⟩
end Go.Proofs.YtnpehjgnplaabaaGreatDoor
