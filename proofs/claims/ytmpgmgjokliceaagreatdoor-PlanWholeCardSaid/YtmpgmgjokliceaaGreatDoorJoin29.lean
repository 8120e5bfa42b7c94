/- Several texts, joined for the limit of sixty files; each one opens with its own comment. -/
import Derived.Test.YtmpgmgjokliceaaGreatDoorJoin16
import Derived.Test.YtmpgmgjokliceaaGreatDoorJoin21
import Derived.Test.YtmpgmgjokliceaaGreatDoorJoin18
import Derived.Test.YtmpgmgjokliceaaGreatDoorJoin9
import Derived.Test.YtmpgmgjokliceaaGreatDoorJoin10
import Derived.Test.YtmpgmgjokliceaaGreatDoorJoin20
import Derived.Test.YtmpgmgjokliceaaGreatDoorJoin8
import Derived.Test.YtmpgmgjokliceaaGreatDoorChecked
import Derived.Test.YtmpgmgjokliceaaGreatDoorJoin11
import Derived.RegionTactic
import Derived.BigRegion
import Derived.Lib.AppendZeros
import Derived.Test.YtmpgmgjokliceaaGreatDoorJoin15
import Derived.Test.YtmpgmgjokliceaaGreatDoorJoin5
/- The reference's Inside and is of layer 32. -/
set_option linter.unusedVariables false
set_option linter.unusedSimpArgs false
namespace Go.Proofs.YtmpgmgjokliceaaGreatDoor
open Go Go.RowKit
open Sw
theorem any_take {α : Type} (f : α → Bool) (l : List α) (i : Nat) (h : i < l.length) : (l.take (i + 1)).any f = ((l.take i).any f || f l[i]) := by
  rw [List.take_succ_eq_append_getElem h, List.any_append]
  simp
theorem any_hit {α : Type} (f : α → Bool) (l : List α) (i : Nat) (h : i < l.length) (hf : f l[i] = true) : l.any f = true := List.any_eq_true.2 ⟨_, List.getElem_mem h, hf⟩
set_option maxRecDepth 100000 in
set_option maxHeartbeats 4000000 in
theorem inside32_any (w : World) (p : ByteArray) (v : Value) (l : List ByteArray) (h : SlV w 1 sE v l) (hp : p.size ≤ 90000) :
    Calls Tryz.prog 13 #[.string p, v] w fun e w' => e = .returned (.bool (insideN l p)) ∧ Below w.heap.size w w' := by
  have HU := Lib.hid (fun W t => ref16Under_any W t p hp)
  unfold insideN
  obtain ⟨f, hf⟩ : ∃ f : ByteArray → Bool, (fun t => decide (t = p) || inS (upsS p) t) = f := ⟨_, rfl⟩
  have hfe : ∀ t, (decide (t = p) || inS (upsS p) t) = f t := fun t => by rw [← hf]
  rw [hf]
  have HFE := Lib.hid hfe
  clear hf hfe hp
  obtain ⟨A, c, rfl, hc1, hc2, hsl⟩ := h
  obtain ⟨n, hn⟩ : ∃ n, l.length = n := ⟨_, rfl⟩
  rw [hn] at hc1 ⊢
  unfold maxLen at hc2
  have HL := Lib.hid hn; clear hn
  have HS := Lib.hid hsl; clear hsl
  go_enter Tryz.func13, Tryz.ntmps13
  go_wp2_with fail
  go_loopw [4, 9] (fun _ iv wr => ∃ i : Nat, i ≤ n ∧ iv = .int .i64 i ∧ (l.take i).any f = false ∧ Below w.heap.size w wr) (fun _ iv _ => n - (intOf iv).toNat)
  case atStart => exact ⟨0, Nat.zero_le _, rfl, rfl, Below.refl _ _⟩
  case round =>
    obtain ⟨i, hi, rfl, hall, hb⟩ := hrel
    by_cases hlt : i < n
    · have hiL : i < l.length := by have := HL.out; omega
      obtain ⟨b, off, rfl, hbb, hcs⟩ := (HS.out.below hb (Nat.le_refl _)) (by omega)
      have c0 := hcs i hiL 0 (by omega)
      simp [sE] at c0
      clear hcs
      have hi1 : (i : Int) < n := by omega
      have hse := str_eq l[i] p
      have hat := any_take f l i hiL
      have hah := any_hit f l i hiL
      rw [hall, Bool.false_or] at hat
      have hfx := HFE.out l[i]
      obtain ⟨x, hx⟩ : ∃ x, l[i] = x := ⟨_, rfl⟩
      simp only [hx] at c0 hse hat hah hfx
      clear hx
      have HX := Lib.hid (And.intro hat (And.intro hah hfx))
      have HB := Lib.hid hb
      clear hat hah hfx hall hb
      by_cases hk : x = p
      · rw [decide_eq_true hk] at hse
        have HT := Lib.hid (HX.out.2.1 (by rw [← HX.out.2.2, decide_eq_true hk]; rfl))
        have HSE := Lib.hid hse
        subst hk
        go_wp2_with fail
        go_ret
        exact ⟨by rw [HT.out]; rfl, HB.out⟩
      · rw [decide_eq_false hk] at hse
        obtain ⟨R, hR⟩ : ∃ R, inS (upsS p) x = R := ⟨_, rfl⟩
        have HU1 := Lib.hid (HU.out wr x)
        rw [hR] at HU1
        have HFX := Lib.hid (show f x = R by rw [← HX.out.2.2, decide_eq_false hk, hR]; rfl)
        clear hR hk
        go_wp2_with fail
        refine HU1.out.mono ?_
        rintro e w2 ⟨rfl, hb2⟩
        have HB2 := Lib.hid (HB.out.trans (hb2.mono HB.out.size))
        clear hb2
        cases R with
        | true =>
          have HT := Lib.hid (HX.out.2.1 HFX.out)
          go_wp2_with fail
          go_ret
          exact ⟨by rw [HT.out]; rfl, HB2.out⟩
        | false =>
          go_wp2_with fail
          go_roundw
          case rel => exact ⟨i + 1, by omega, by go_num, by rw [HX.out.1, HFX.out], HB2.out⟩
          case measure => simp [intOf]; omega
    · obtain rfl : i = n := by omega
      have htk : l.take i = l := List.take_of_length_le (by have := HL.out; omega)
      rw [htk] at hall
      have HF := Lib.hid (And.intro hall hb); clear hall hb htk
      go_wp2_with fail
      go_ret
      exact ⟨by rw [HF.out.1]; rfl, HF.out.2⟩
set_option maxRecDepth 100000 in
set_option maxHeartbeats 4000000 in
theorem is32_any (w : World) (p : ByteArray) (v : Value) (l : List ByteArray) (h : SlV w 1 sE v l) :
    Calls Tryz.prog 45 #[v, .string p] w fun e w' => e = .returned (.bool (isTop l p)) ∧ Below w.heap.size w w' := by
  unfold isTop
  obtain ⟨f, hf⟩ : ∃ f : ByteArray → Bool, (fun t => decide (t = p)) = f := ⟨_, rfl⟩
  have hfe : ∀ t, decide (t = p) = f t := fun t => by rw [← hf]
  rw [hf]
  have HFE := Lib.hid hfe
  clear hf hfe
  obtain ⟨A, c, rfl, hc1, hc2, hsl⟩ := h
  obtain ⟨n, hn⟩ : ∃ n, l.length = n := ⟨_, rfl⟩
  rw [hn] at hc1 ⊢
  unfold maxLen at hc2
  have HL := Lib.hid hn; clear hn
  have HS := Lib.hid hsl; clear hsl
  go_enter Tryz.func45, Tryz.ntmps45
  go_wp2_with fail
  go_loopw [4, 9] (fun _ iv wr => ∃ i : Nat, i ≤ n ∧ iv = .int .i64 i ∧ (l.take i).any f = false ∧ w = wr) (fun _ iv _ => n - (intOf iv).toNat)
  case atStart => exact ⟨0, Nat.zero_le _, rfl, rfl, rfl⟩
  case round =>
    obtain ⟨i, hi, rfl, hall, rfl⟩ := hrel
    by_cases hlt : i < n
    · have hiL : i < l.length := by have := HL.out; omega
      obtain ⟨b, off, rfl, hbb, hcs⟩ := HS.out (by omega)
      have c0 := hcs i hiL 0 (by omega)
      simp [sE] at c0
      clear hcs
      have hi1 : (i : Int) < n := by omega
      have hse := str_eq l[i] p
      have hat := any_take f l i hiL
      have hah := any_hit f l i hiL
      rw [hall, Bool.false_or] at hat
      have hfx := HFE.out l[i]
      obtain ⟨x, hx⟩ : ∃ x, l[i] = x := ⟨_, rfl⟩
      simp only [hx] at c0 hse hat hah hfx
      clear hx
      have HX := Lib.hid (And.intro hat (And.intro hah hfx))
      clear hat hah hfx hall
      by_cases hk : x = p
      · rw [decide_eq_true hk] at hse
        have HT := Lib.hid (HX.out.2.1 (by rw [← HX.out.2.2, decide_eq_true hk]))
        have HSE := Lib.hid hse
        subst hk
        go_wp2_with fail
        go_ret
        exact ⟨by rw [HT.out]; rfl, Below.refl _ _⟩
      · rw [decide_eq_false hk] at hse
        have HFX := Lib.hid (show f x = false by rw [← HX.out.2.2, decide_eq_false hk])
        clear hk
        go_wp2_with fail
        go_roundw
        case rel => exact ⟨i + 1, by omega, by go_num, by rw [HX.out.1, HFX.out], by trivial⟩
        case measure => simp [intOf]; omega
    · obtain rfl : i = n := by omega
      have htk : l.take i = l := List.take_of_length_le (by have := HL.out; omega)
      rw [htk] at hall
      have HF := Lib.hid hall; clear hall htk
      go_wp2_with fail
      go_ret
      exact ⟨by rw [HF.out]; rfl, Below.refl _ _⟩
end Go.Proofs.YtmpgmgjokliceaaGreatDoor
/- XDosRef with names that do not clash with the name texts (made from it by sed). -/
set_option linter.unusedVariables false
namespace Go.Proofs.YtmpgmgjokliceaaGreatDoor
open Go.RowKit
open Sw
set_option maxHeartbeats 1000000 in
theorem refDosDays_any (w : World) (y m : Int) (h0 : -9223372036854775808 ≤ y) (h1 : y ≤ 9223372036854775807) :
    Calls Tryz.prog 250 #[.int .i64 y, .int .i64 m] w fun e w' => e = .returned (.int .i64 (daysI y m)) ∧ w = w' := by
  by_cases hy : y < 1980
  · have hd : daysI y m = 0 := by unfold daysI; rw [if_pos (.inl hy)]
    rw [hd]
    go_enter Tryz.func250, Tryz.ntmps250
    go_wp2_with fail
    go_ret
    exact ⟨rfl, rfl⟩
  by_cases hy2 : 2107 < y
  · have hd : daysI y m = 0 := by unfold daysI; rw [if_pos (.inr (.inl hy2))]
    rw [hd]
    go_enter Tryz.func250, Tryz.ntmps250
    go_wp2_with fail
    go_ret
    exact ⟨rfl, rfl⟩
  have HD := Lib.hid (fun (hm : ¬ (m < 1 ∨ 12 < m)) => show daysI y m = (if m = 2 then (if leapI y = true then 29 else 28) else if m = 4 ∨ m = 6 ∨ m = 9 ∨ m = 11 then 30 else 31) by
    unfold daysI
    rw [if_neg (by omega)])
  have hm : m = 1 ∨ m = 3 ∨ m = 4 ∨ m = 5 ∨ m = 6 ∨ m = 7 ∨ m = 8 ∨ m = 9 ∨ m = 10 ∨ m = 11 ∨ m = 12 ∨ m = 2 ∨ m < 1 ∨ 12 < m := by omega
  rcases hm with rfl | rfl | rfl | rfl | rfl | rfl | rfl | rfl | rfl | rfl | rfl | hm
  case inr.inr.inr.inr.inr.inr.inr.inr.inr.inr.inr =>
    rcases hm with rfl | hm
    · have e4 : (y.tmod 4 == 0) = decide (y % 4 = 0) := by
        rw [Bool.eq_iff_iff, beq_iff_eq, decide_eq_true_iff, ← Int.dvd_iff_tmod_eq_zero, ← Int.dvd_iff_emod_eq_zero]
      have hd : daysI y 2 = if leapI y = true then 29 else 28 := by
        unfold daysI
        rw [if_neg (by omega), if_pos rfl]
      unfold leapI at hd
      by_cases h4 : y % 4 = 0
      · have ht : (y.tmod 4 == 0) = true := by rw [e4]; simpa using h4
        by_cases h5 : y = 2100
        · have hn : (y != 2100) = false := by simp [h5]
          have hd' : daysI y 2 = 28 := by rw [hd]; simp [h5]
          rw [hd']
          clear hd hd' e4 h5
          go_enter Tryz.func250, Tryz.ntmps250
          go_wp2_with fail
          go_ret
          exact ⟨rfl, rfl⟩
        · have hn : (y != 2100) = true := by simp [h5]
          have hd' : daysI y 2 = 29 := by rw [hd]; simp [h5, h4]
          rw [hd']
          clear hd hd' e4
          go_enter Tryz.func250, Tryz.ntmps250
          go_wp2_with fail
          go_ret
          exact ⟨rfl, rfl⟩
      · have ht : (y.tmod 4 == 0) = false := by rw [e4]; simpa using h4
        have hd' : daysI y 2 = 28 := by rw [hd]; simp [h4]
        rw [hd']
        clear hd hd' e4
        go_enter Tryz.func250, Tryz.ntmps250
        go_wp2_with fail
        go_ret
        exact ⟨rfl, rfl⟩
    · have hd : daysI y m = 0 := by unfold daysI; rw [if_pos (.inr (.inr hm))]
      rw [hd]
      have t1 : (m == 1) = false := by rw [beq_eq_false_iff_ne]; omega
      have t2 : (m == 2) = false := by rw [beq_eq_false_iff_ne]; omega
      have t3 : (m == 3) = false := by rw [beq_eq_false_iff_ne]; omega
      have t4 : (m == 4) = false := by rw [beq_eq_false_iff_ne]; omega
      have t5 : (m == 5) = false := by rw [beq_eq_false_iff_ne]; omega
      have t6 : (m == 6) = false := by rw [beq_eq_false_iff_ne]; omega
      have t7 : (m == 7) = false := by rw [beq_eq_false_iff_ne]; omega
      have t8 : (m == 8) = false := by rw [beq_eq_false_iff_ne]; omega
      have t9 : (m == 9) = false := by rw [beq_eq_false_iff_ne]; omega
      have t10 : (m == 10) = false := by rw [beq_eq_false_iff_ne]; omega
      have t11 : (m == 11) = false := by rw [beq_eq_false_iff_ne]; omega
      have t12 : (m == 12) = false := by rw [beq_eq_false_iff_ne]; omega
      clear hd hm
      go_enter Tryz.func250, Tryz.ntmps250
      go_wp2_with fail
      go_ret
      exact ⟨rfl, rfl⟩
  all_goals
    have hd := HD.out (by omega)
    simp at hd
    rw [hd]
    clear hd HD
    go_enter Tryz.func250, Tryz.ntmps250
    go_wp2_with fail
    go_ret
    exact ⟨rfl, rfl⟩
theorem refDosSplit_any (w : World) (t : Int) (h0 : 0 ≤ t) (h1 : t < 4294967296) :
    Calls Tryz.prog 234 #[.int .u32 t] w fun e w' => e = .returned (.agg (Dt.v (splitD t))) ∧ Below w.heap.size w w' := by
  go_enter Tryz.func234, Tryz.ntmps234
  have hrow : Dt.v (splitD t) = #[Value.int IntKind.i64 (1980 + t / 32 / 64 / 32 / 32 / 16), Value.int IntKind.i64 (t / 32 / 64 / 32 / 32 % 16), Value.int IntKind.i64 (t / 32 / 64 / 32 % 32), Value.int IntKind.i64 (t / 32 / 64 % 32), Value.int IntKind.i64 (t / 32 % 64), Value.int IntKind.i64 (2 * (t % 32))] := by
    have e1 : t / 32 / 64 / 32 / 32 / 16 = t / 33554432 := by omega
    have e2 : t / 32 / 64 / 32 / 32 = t / 2097152 := by omega
    have e3 : t / 32 / 64 / 32 = t / 65536 := by omega
    have e4 : t / 32 / 64 = t / 2048 := by omega
    rw [e1, e2, e3, e4]; rfl
  rw [hrow]
  have HROW := Lib.hid hrow; clear hrow
  go_wp2_with fail
  refine bodyPost_ret (results_cell_row rfl _ _ w.heap.size 264 _ (0, 0) _ rfl ((Blk.new w _ _).alloc _) Tryz.underlying264 rfl (by kernel_rfl)) rfl ⟨rfl, ((Below.refl w.heap.size w).alloc (Nat.le_refl _) _).alloc (by simp) _⟩
set_option maxRecDepth 100000 in
set_option maxHeartbeats 40000000 in
theorem refDosRight_any (w : World) (x : Dt) (hx : Dt.In x) :
    Calls Tryz.prog 233 #[.agg (Dt.v x)] w fun e w' => e = .returned (.bool (decide x.Ok)) ∧ Below w.heap.size w w' := by
  have hT : TimeAt w w.heap.size 264 x (w.alloc (Obj.cells (Dt.v x) 264)) := ⟨Blk.new _ _ _, (Below.refl _ _).alloc (Nat.le_refl _) _⟩
  have HTD := Lib.hid (show TimeAt w w.heap.size 264 x (w.alloc (Obj.cells (Dt.v x) 264)).drew from ⟨hT.1, hT.2.drew⟩)
  have hD := fun W => refDosDays_any W x.y x.m hx.y0 hx.y1
  have hdl := daysI_le x.y x.m
  have hOk : x.Ok = (1 ≤ x.d ∧ x.d ≤ daysI x.y x.m ∧ 0 ≤ x.h ∧ x.h < 24 ∧ 0 ≤ x.mi ∧ x.mi < 60 ∧ 0 ≤ x.s ∧ x.s < 60 ∧ x.s % 2 = 0) := rfl
  generalize hdy : daysI x.y x.m = dy at *
  have HD := Lib.hid hD; clear hD
  have HOK := Lib.hid hOk; clear hOk
  have hm2 : (x.s.tmod 2 == 0) = decide (x.s % 2 = 0) := by rw [Bool.eq_iff_iff, beq_iff_eq, decide_eq_true_iff, ← Int.dvd_iff_tmod_eq_zero, ← Int.dvd_iff_emod_eq_zero]
  have HM2 := Lib.hid hm2; clear hm2
  clear hT hdy
  have q0 : ∀ n : Held (TimeAt w w.heap.size 264 x), (HeldW n).cell? ⟨w.heap.size, 0, none⟩ = some (.int .i64 x.y) := fun n => (HeldW_spec n).1.cell 0
  have q1 : ∀ n : Held (TimeAt w w.heap.size 264 x), (HeldW n).cell? ⟨w.heap.size, 1, none⟩ = some (.int .i64 x.m) := fun n => (HeldW_spec n).1.cell 1
  have q2 : ∀ n : Held (TimeAt w w.heap.size 264 x), (HeldW n).cell? ⟨w.heap.size, 2, none⟩ = some (.int .i64 x.d) := fun n => (HeldW_spec n).1.cell 2
  have q3 : ∀ n : Held (TimeAt w w.heap.size 264 x), (HeldW n).cell? ⟨w.heap.size, 3, none⟩ = some (.int .i64 x.h) := fun n => (HeldW_spec n).1.cell 3
  have q4 : ∀ n : Held (TimeAt w w.heap.size 264 x), (HeldW n).cell? ⟨w.heap.size, 4, none⟩ = some (.int .i64 x.mi) := fun n => (HeldW_spec n).1.cell 4
  have q5 : ∀ n : Held (TimeAt w w.heap.size 264 x), (HeldW n).cell? ⟨w.heap.size, 5, none⟩ = some (.int .i64 x.s) := fun n => (HeldW_spec n).1.cell 5
  haveI : Nonempty (Held (TimeAt w w.heap.size 264 x)) := held_some HTD.out
  obtain ⟨y0, y1, m0, m1, d0, d1, hh0, hh1, i0, i1, s0, s1⟩ := hx
  by_cases c0 : 1 ≤ x.d
  · skip
    by_cases c1 : x.d ≤ dy
    · skip
      by_cases c2 : 0 ≤ x.h
      · skip
        by_cases c3 : x.h ≤ 23
        · skip
          by_cases c4 : 0 ≤ x.mi
          · skip
            by_cases c5 : x.mi ≤ 59
            · skip
              by_cases c6 : 0 ≤ x.s
              · skip
                by_cases c7 : x.s ≤ 58
                · skip
                  by_cases c8 : x.s % 2 = 0
                  · skip
                    have t2 : (x.s.tmod 2 == 0) = true := by rw [HM2.out]; exact decide_eq_true c8
                    have HR := Lib.hid (show decide x.Ok = true by rw [decide_eq_true_iff, HOK.out]; omega)
                    go_enter Tryz.func233, Tryz.ntmps233
                    go_wp2_with fail
                    refine wp_region_class (TimeAt w w.heap.size 264 x) (by kernel_rfl) (by kernel_rfl) HTD.out ?_
                    repeat (go_big_quiet_step (with_reducible exact held_same (HD.out _)))
                    refine wpQuiet_nil ?_
                    rintro _ ⟨n, rfl⟩
                    go_wp2_with fail
                    go_ret
                    rw [HR.out]
                    exact ⟨by first | (simp; done) | (simp; omega), (HeldW_spec n).2⟩
                  · skip
                    have t2 : (x.s.tmod 2 == 0) = false := by rw [HM2.out]; exact decide_eq_false c8
                    have HR := Lib.hid (show decide x.Ok = false by rw [decide_eq_false_iff_not, HOK.out]; omega)
                    go_enter Tryz.func233, Tryz.ntmps233
                    go_wp2_with fail
                    refine wp_region_class (TimeAt w w.heap.size 264 x) (by kernel_rfl) (by kernel_rfl) HTD.out ?_
                    repeat (go_big_quiet_step (with_reducible exact held_same (HD.out _)))
                    refine wpQuiet_nil ?_
                    rintro _ ⟨n, rfl⟩
                    go_wp2_with fail
                    go_ret
                    rw [HR.out]
                    exact ⟨by first | (simp; done) | (simp; omega), (HeldW_spec n).2⟩
                · skip
                  have t7f : decide (x.s ≤ 58) = false := decide_eq_false c7
                  have HR := Lib.hid (show decide x.Ok = false by rw [decide_eq_false_iff_not, HOK.out]; omega)
                  go_enter Tryz.func233, Tryz.ntmps233
                  go_wp2_with fail
                  refine wp_region_class (TimeAt w w.heap.size 264 x) (by kernel_rfl) (by kernel_rfl) HTD.out ?_
                  repeat (go_big_quiet_step (with_reducible exact held_same (HD.out _)))
                  refine wpQuiet_nil ?_
                  rintro _ ⟨n, rfl⟩
                  go_wp2_with fail
                  go_ret
                  rw [HR.out]
                  exact ⟨by first | (simp; done) | (simp; omega), (HeldW_spec n).2⟩
              · skip
                have t6f : decide (0 ≤ x.s) = false := decide_eq_false c6
                have HR := Lib.hid (show decide x.Ok = false by rw [decide_eq_false_iff_not, HOK.out]; omega)
                go_enter Tryz.func233, Tryz.ntmps233
                go_wp2_with fail
                refine wp_region_class (TimeAt w w.heap.size 264 x) (by kernel_rfl) (by kernel_rfl) HTD.out ?_
                repeat (go_big_quiet_step (with_reducible exact held_same (HD.out _)))
                refine wpQuiet_nil ?_
                rintro _ ⟨n, rfl⟩
                go_wp2_with fail
                go_ret
                rw [HR.out]
                exact ⟨by first | (simp; done) | (simp; omega), (HeldW_spec n).2⟩
            · skip
              have t5f : decide (x.mi ≤ 59) = false := decide_eq_false c5
              have HR := Lib.hid (show decide x.Ok = false by rw [decide_eq_false_iff_not, HOK.out]; omega)
              go_enter Tryz.func233, Tryz.ntmps233
              go_wp2_with fail
              refine wp_region_class (TimeAt w w.heap.size 264 x) (by kernel_rfl) (by kernel_rfl) HTD.out ?_
              repeat (go_big_quiet_step (with_reducible exact held_same (HD.out _)))
              refine wpQuiet_nil ?_
              rintro _ ⟨n, rfl⟩
              go_wp2_with fail
              go_ret
              rw [HR.out]
              exact ⟨by first | (simp; done) | (simp; omega), (HeldW_spec n).2⟩
          · skip
            have t4f : decide (0 ≤ x.mi) = false := decide_eq_false c4
            have HR := Lib.hid (show decide x.Ok = false by rw [decide_eq_false_iff_not, HOK.out]; omega)
            go_enter Tryz.func233, Tryz.ntmps233
            go_wp2_with fail
            refine wp_region_class (TimeAt w w.heap.size 264 x) (by kernel_rfl) (by kernel_rfl) HTD.out ?_
            repeat (go_big_quiet_step (with_reducible exact held_same (HD.out _)))
            refine wpQuiet_nil ?_
            rintro _ ⟨n, rfl⟩
            go_wp2_with fail
            go_ret
            rw [HR.out]
            exact ⟨by first | (simp; done) | (simp; omega), (HeldW_spec n).2⟩
        · skip
          have t3f : decide (x.h ≤ 23) = false := decide_eq_false c3
          have HR := Lib.hid (show decide x.Ok = false by rw [decide_eq_false_iff_not, HOK.out]; omega)
          go_enter Tryz.func233, Tryz.ntmps233
          go_wp2_with fail
          refine wp_region_class (TimeAt w w.heap.size 264 x) (by kernel_rfl) (by kernel_rfl) HTD.out ?_
          repeat (go_big_quiet_step (with_reducible exact held_same (HD.out _)))
          refine wpQuiet_nil ?_
          rintro _ ⟨n, rfl⟩
          go_wp2_with fail
          go_ret
          rw [HR.out]
          exact ⟨by first | (simp; done) | (simp; omega), (HeldW_spec n).2⟩
      · skip
        have t2f : decide (0 ≤ x.h) = false := decide_eq_false c2
        have HR := Lib.hid (show decide x.Ok = false by rw [decide_eq_false_iff_not, HOK.out]; omega)
        go_enter Tryz.func233, Tryz.ntmps233
        go_wp2_with fail
        refine wp_region_class (TimeAt w w.heap.size 264 x) (by kernel_rfl) (by kernel_rfl) HTD.out ?_
        repeat (go_big_quiet_step (with_reducible exact held_same (HD.out _)))
        refine wpQuiet_nil ?_
        rintro _ ⟨n, rfl⟩
        go_wp2_with fail
        go_ret
        rw [HR.out]
        exact ⟨by first | (simp; done) | (simp; omega), (HeldW_spec n).2⟩
    · skip
      have t1f : decide (x.d ≤ dy) = false := decide_eq_false c1
      have HR := Lib.hid (show decide x.Ok = false by rw [decide_eq_false_iff_not, HOK.out]; omega)
      go_enter Tryz.func233, Tryz.ntmps233
      go_wp2_with fail
      refine wp_region_class (TimeAt w w.heap.size 264 x) (by kernel_rfl) (by kernel_rfl) HTD.out ?_
      repeat (go_big_quiet_step (with_reducible exact held_same (HD.out _)))
      refine wpQuiet_nil ?_
      rintro _ ⟨n, rfl⟩
      go_wp2_with fail
      go_ret
      rw [HR.out]
      exact ⟨by first | (simp; done) | (simp; omega), (HeldW_spec n).2⟩
  · skip
    have t0f : decide (1 ≤ x.d) = false := decide_eq_false c0
    have HR := Lib.hid (show decide x.Ok = false by rw [decide_eq_false_iff_not, HOK.out]; omega)
    go_enter Tryz.func233, Tryz.ntmps233
    go_wp2_with fail
    refine wp_region_class (TimeAt w w.heap.size 264 x) (by kernel_rfl) (by kernel_rfl) HTD.out ?_
    repeat (go_big_quiet_step (with_reducible exact held_same (HD.out _)))
    refine wpQuiet_nil ?_
    rintro _ ⟨n, rfl⟩
    go_wp2_with fail
    go_ret
    rw [HR.out]
    exact ⟨by first | (simp; done) | (simp; omega), (HeldW_spec n).2⟩
end Go.Proofs.YtmpgmgjokliceaaGreatDoor
/- The reference's Right of nodes (at a node that is one). -/
set_option linter.unusedVariables false
set_option linter.unusedSimpArgs false
namespace Go.Proofs.YtmpgmgjokliceaaGreatDoor
open Go Go.RowKit
open Sw
theorem refTime_any (w : World) (t : Int) (h0 : 0 ≤ t) (h1 : t < 4294967296) :
    Calls Tryz.prog 204 #[.int .u32 t] w fun e w' => e = .returned (.bool (decide (splitD t).Ok)) ∧ Below w.heap.size w w' := by
  have H1 := Lib.hid (refDosSplit_any w t h0 h1)
  have H2 := Lib.hid (fun W => refDosRight_any W (splitD t) (splitD_in t h0 h1))
  go_enter Tryz.func204, Tryz.ntmps204
  go_wp2_with fail
  refine H1.out.mono ?_
  rintro _ w1 ⟨rfl, hb1⟩
  have HB1 := Lib.hid hb1; clear hb1
  go_wp2_with fail
  refine (H2.out _).mono ?_
  rintro _ w2 ⟨rfl, hb2⟩
  have HB2 := Lib.hid (HB1.out.trans (hb2.mono HB1.out.size)); clear hb2
  go_wp2_with fail
  go_ret
  exact ⟨rfl, HB2.out⟩
set_option maxRecDepth 100000 in
set_option maxHeartbeats 4000000 in
theorem ref14Right_any (w : World) (n : Nd) (hk : ¬ n.kind = 0) (ht0 : 0 ≤ n.time) (ht1 : n.time < 4294967296) (hd : n.data.size ≤ maxLen) :
    Calls Tryz.prog 166 #[.agg n.c] w fun e w' => e = .returned (.int .i64 (nodeR n)) ∧ Below w.heap.size w w' := by
  obtain ⟨kd, md, tm, dt⟩ := n
  simp only at hk ht0 ht1 hd
  unfold maxLen at hd
  have hb0 := (Below.refl w.heap.size w).alloc (Nat.le_refl _) (.cells #[.int .i64 kd, .int .i64 md, .int .u32 tm, .string dt] 37)
  have hB0 := Blk.new w 37 #[.int .i64 kd, .int .i64 md, .int .u32 tm, .string dt]
  have H0 := Lib.hid (And.intro hb0 hB0); clear hb0 hB0
  have e0 : (kd == 0) = false := by rw [beq_eq_false_iff_ne]; exact hk
  unfold Nd.c
  have hR : nodeR ⟨kd, md, tm, dt⟩ = if ¬ kd = 1 ∧ ¬ kd = 2 then 8 else if kd = 2 ∧ (¬ dt.data.toList = [] ∨ ¬ tm = 0) then 1 else if ¬ (0 ≤ md ∧ md ≤ 511) then 12 else if kd = 1 ∧ ¬ (splitD tm).Ok then 13 else if (65000 : Int) < dt.size then 4 else 0 := by
    unfold nodeR
    simp [hk]
  rw [hR]
  clear hR
  by_cases h1 : kd = 1
  · subst h1
    rw [if_neg (by omega), if_neg (by omega)]
    have HD := Lib.hid (fun W => refTime_any W tm ht0 ht1)
    by_cases hm0 : 0 ≤ md
    · by_cases hm1 : md ≤ 511
      · rw [if_neg (fun h => h ⟨hm0, hm1⟩)]
        by_cases hk2 : (splitD tm).Ok
        · rw [decide_eq_true hk2] at HD
          rw [if_neg (fun h => h.2 hk2)]
          clear hk hk2
          by_cases hs : (65000 : Int) < dt.size
          all_goals
            first | rw [if_pos hs] | rw [if_neg hs]
            go_enter Tryz.func166, Tryz.ntmps166
            go_wp2_with fail
            refine (HD.out _).mono ?_
            rintro e w2 ⟨rfl, hb2⟩
            have x3 := (H0.out.2.below hb2 H0.out.2.lt).cell 3
            simp at x3
            have HF := Lib.hid (H0.out.1.trans (hb2.mono H0.out.1.size)); clear hb2
            go_wp2_with fail
            go_ret
            exact ⟨rfl, HF.out⟩
        · rw [decide_eq_false hk2] at HD
          rw [if_pos ⟨rfl, hk2⟩]
          clear hk hk2
          go_enter Tryz.func166, Tryz.ntmps166
          go_wp2_with fail
          refine (HD.out _).mono ?_
          rintro e w2 ⟨rfl, hb2⟩
          have HF := Lib.hid (H0.out.1.trans (hb2.mono H0.out.1.size)); clear hb2
          go_wp2_with fail
          go_ret
          exact ⟨rfl, HF.out⟩
      · rw [if_pos (fun h => hm1 h.2)]
        go_enter Tryz.func166, Tryz.ntmps166
        go_wp2_with fail
        go_ret
        exact ⟨rfl, H0.out.1⟩
    · rw [if_pos (fun h => hm0 h.1)]
      go_enter Tryz.func166, Tryz.ntmps166
      go_wp2_with fail
      go_ret
      exact ⟨rfl, H0.out.1⟩
  · have e1 : (kd == 1) = false := by rw [beq_eq_false_iff_ne]; exact h1
    by_cases h2 : kd = 2
    · subst h2
      rw [if_neg (by omega)]
      by_cases hx : dt.data.toList = []
      · by_cases hy : tm = 0
        · subst hy
          rw [if_neg (by rintro ⟨_, h⟩; rcases h with h | h <;> simp_all)]
          have hdz : dt = ⟨#[]⟩ := by cases dt with | mk d => cases d with | mk l => simp at hx; subst hx; rfl
          subst hdz
          clear hk h1 e1 hx
          by_cases hm0 : 0 ≤ md
          · by_cases hm1 : md ≤ 511
            · rw [if_neg (fun h => h ⟨hm0, hm1⟩)]
              rw [if_neg (by omega), if_neg (by decide)]
              go_enter Tryz.func166, Tryz.ntmps166
              go_wp2_with fail
              go_ret
              exact ⟨rfl, H0.out.1⟩
            · rw [if_pos (fun h => hm1 h.2)]
              go_enter Tryz.func166, Tryz.ntmps166
              go_wp2_with fail
              go_ret
              exact ⟨rfl, H0.out.1⟩
          · rw [if_pos (fun h => hm0 h.1)]
            go_enter Tryz.func166, Tryz.ntmps166
            go_wp2_with fail
            go_ret
            exact ⟨rfl, H0.out.1⟩
        · rw [if_pos ⟨rfl, .inr hy⟩]
          have hdz : dt = ⟨#[]⟩ := by cases dt with | mk d => cases d with | mk l => simp at hx; subst hx; rfl
          subst hdz
          have t0 : (tm == 0) = false := by rw [beq_eq_false_iff_ne]; exact hy
          have t1 : (tm != 0) = true := by rw [bne_iff_ne]; exact hy
          clear hk h1 e1 hx hy
          go_enter Tryz.func166, Tryz.ntmps166
          go_wp2_with fail
          go_ret
          exact ⟨rfl, H0.out.1⟩
      · rw [if_pos ⟨rfl, .inl hx⟩]
        have s0 : dt.data.toList.isEmpty = false := by cases hl : dt.data.toList with | nil => exact absurd hl hx | cons a l => rfl
        have s1 : (!dt.data.toList.isEmpty) = true := by rw [s0]; rfl
        have s2 : (dt.data.toList == []) = false := by rw [beq_eq_false_iff_ne]; exact hx
        have s3 : dt.toList.isEmpty = false := by rw [ByteArray.toList_eq]; exact s0
        clear hk h1 e1 hx
        go_enter Tryz.func166, Tryz.ntmps166
        go_wp2_with fail
        go_ret
        exact ⟨rfl, H0.out.1⟩
    · rw [if_pos ⟨h1, h2⟩]
      have e2 : (kd == 2) = false := by rw [beq_eq_false_iff_ne]; exact h2
      by_cases hn : kd < 0
      · clear hk h1 h2 e0 e1 e2
        go_enter Tryz.func166, Tryz.ntmps166
        go_wp2_with fail
        go_ret
        exact ⟨rfl, H0.out.1⟩
      · have hn2 : (2 : Int) < kd := by omega
        clear hk h1 h2 e0 e1 e2
        go_enter Tryz.func166, Tryz.ntmps166
        go_wp2_with fail
        go_ret
        exact ⟨rfl, H0.out.1⟩
end Go.Proofs.YtmpgmgjokliceaaGreatDoor
/- The reference's Fine, of a print: it answers. -/
set_option linter.unusedVariables false
set_option linter.unusedSimpArgs false
namespace Go.Proofs.YtmpgmgjokliceaaGreatDoor
open Go Go.RowKit
open Sw
end Go.Proofs.YtmpgmgjokliceaaGreatDoor
/- Two stretches of a row exchanged: plain. -/
set_option linter.unusedVariables false
set_option linter.unusedSimpArgs false
namespace Sw
/-- two stretches of i exchanged -/
def swL {β : Type} (l : List β) (a b i : Nat) : List β := l.mapIdx fun m x => if a ≤ m ∧ m < a + i then (l[b + (m - a)]?).getD x else if b ≤ m ∧ m < b + i then (l[a + (m - b)]?).getD x else x
section
variable {β : Type}
theorem swL_len (l : List β) (a b i : Nat) : (swL l a b i).length = l.length := by simp [swL]
theorem swL_get (l : List β) (a b i m : Nat) (hab : a + i ≤ b) (hb : b + i ≤ l.length) (h : m < l.length) : (swL l a b i)[m]'(by rw [swL_len]; exact h) = if h1 : a ≤ m ∧ m < a + i then l[b + (m - a)]'(by omega) else if h2 : b ≤ m ∧ m < b + i then l[a + (m - b)]'(by omega) else l[m] := by
  simp only [swL, List.getElem_mapIdx]
  split
  · rw [List.getElem?_eq_getElem (by omega)]; rfl
  · split
    · rw [List.getElem?_eq_getElem (by omega)]; rfl
    · rfl
theorem swL_zero (l : List β) (a b : Nat) : swL l a b 0 = l := by
  apply List.ext_getElem
  · exact swL_len l a b 0
  · intro m h1 h2
    simp only [swL, List.getElem_mapIdx]
    rw [if_neg (by omega), if_neg (by omega)]
theorem swL_step (l : List β) (a b i : Nat) (hab : a + i < b) (hb : b + i < l.length) :
    swL l a b (i + 1) = ((swL l a b i).set (a + i) ((swL l a b i)[b + i]'(by rw [swL_len]; exact hb))).set (b + i) ((swL l a b i)[a + i]'(by rw [swL_len]; omega)) := by
  apply List.ext_getElem
  · simp [swL_len]
  · intro m h1 h2
    have h3 : m < l.length := by rw [swL_len] at h1; exact h1
    rw [swL_get l a b (i + 1) m (by omega) (by omega) h3, List.getElem_set, List.getElem_set]
    simp only [swL_get l a b i (b + i) (by omega) (by omega) hb, swL_get l a b i (a + i) (by omega) (by omega) (by omega), swL_get l a b i m (by omega) (by omega) h3]
    by_cases e1 : b + i = m
    · subst e1
      rw [dif_neg (by omega), dif_pos (by omega), if_pos rfl, dif_neg (by omega), dif_neg (by omega)]
      congr 1; omega
    · rw [if_neg e1]
      by_cases e2 : a + i = m
      · subst e2
        rw [dif_pos (by omega), if_pos rfl, dif_neg (by omega), dif_neg (by omega)]
        congr 1; omega
      · rw [if_neg e2]
        by_cases e3 : a ≤ m ∧ m < a + i
        · rw [dif_pos (by omega), dif_pos e3]
        · rw [dif_neg (by omega), dif_neg e3]
          by_cases e4 : b ≤ m ∧ m < b + i
          · rw [dif_pos (by omega), dif_pos e4]
          · rw [dif_neg (by omega), dif_neg e4]
theorem swL_end (P X M Y Q : List β) (h : X.length = Y.length) : swL (P ++ X ++ M ++ Y ++ Q) P.length (P.length + X.length + M.length) X.length = P ++ Y ++ M ++ X ++ Q := by
  apply List.ext_getElem
  · simp only [swL_len, List.length_append]; omega
  · intro m h1 h2
    have h3 : m < (P ++ X ++ M ++ Y ++ Q).length := by rw [swL_len] at h1; exact h1
    rw [swL_get _ _ _ _ m (by omega) (by simp only [List.length_append]; omega) h3]
    simp only [List.length_append] at h3
    split
    · rename_i e
      simp only [List.getElem_append, List.length_append]
      repeat' split
      all_goals first | omega | (congr 1; omega)
    · split
      · rename_i e1 e
        simp only [List.getElem_append, List.length_append]
        repeat' split
        all_goals first | omega | (congr 1; omega)
      · rename_i e1 e2
        simp only [List.getElem_append, List.length_append]
        repeat' split
        all_goals first | omega | (congr 1; omega) | rfl
end
end Sw

/- The parts of slices.SortStableFunc at rows of api.Mark: two stretches exchanged; a stretch turned about. -/
set_option linter.unusedVariables false
set_option linter.unusedSimpArgs false
namespace Go.Proofs.YtmpgmgjokliceaaGreatDoor
open Go Go.RowKit
open Sw
def eCMK (e : { s : ByteArray // s.size ≤ 90000 } × Pr) : List Value := [.string e.1.1, .int .i64 e.2.kind, .int .i64 e.2.mode, .int .u32 e.2.time, .int .i64 e.2.size, .int .u32 e.2.sum]
theorem eCMK_len (e : { s : ByteArray // s.size ≤ 90000 } × Pr) : (eCMK e).length = 6 := rfl
end Go.Proofs.YtmpgmgjokliceaaGreatDoor
/- slices.Concat of two rows of marks. -/
set_option linter.unusedVariables false
set_option linter.unusedSimpArgs false
namespace Go.Proofs.YtmpgmgjokliceaaGreatDoor
open Go Go.RowKit
open Sw
/-- a mark's cells -/
def eCM (m : ByteArray × Pr) : List Value := [.string m.1, .int .i64 m.2.kind, .int .i64 m.2.mode, .int .u32 m.2.time, .int .i64 m.2.size, .int .u32 m.2.sum]
theorem eCM_len (m : ByteArray × Pr) : (eCM m).length = 6 := rfl
theorem eCM_one (m : ByteArray × Pr) : ∀ u ∈ eCM m, u.oneCell' = true := fun u hu => by
  simp only [eCM, List.mem_cons, List.not_mem_nil, or_false] at hu
  rcases hu with rfl | rfl | rfl | rfl | rfl | rfl <;> rfl
theorem infoMk : (Tryz.prog.info? 114).map (fun i => (i.zero, i.size, i.bytes)) = some (some (.agg #[.string ⟨#[]⟩, .int .i64 0, .int .i64 0, .int .u32 0, .int .i64 0, .int .u32 0]), 6, 56) := by kernel_rfl
end Go.Proofs.YtmpgmgjokliceaaGreatDoor
/- archive.Find. -/
set_option linter.unusedVariables false
set_option linter.unusedSimpArgs false
namespace Sw
open Go
theorem toList_inj {x y : ByteArray} (h : x.toList = y.toList) : x = y := by
  rw [ByteArray.toList_eq, ByteArray.toList_eq] at h
  apply ByteArray.ext
  exact Array.ext' h
theorem str_beq (u v : ByteArray) : (u.toList == v.toList) = decide (u = v) := by
  by_cases h : u = v
  · subst h; simp
  · have : ¬ u.toList = v.toList := fun e => h (toList_inj e)
    simp [h, this]
theorem findM_at : ∀ (L : List MkE) (p : ByteArray) (i : Nat) (h : i < L.length), (∀ j (hj : j < L.length), j < i → ¬ L[j].1 = p) → L[i].1 = p → findM L p = some L[i].2
  | [], p, i, h, _, _ => absurd h (by simp)
  | m :: L, p, 0, h, _, he => by rw [findM_cons, if_pos (by simpa using he)]; rfl
  | m :: L, p, i + 1, h, hn, he => by
    have h0 := hn 0 (by simp) (by omega)
    rw [findM_cons, if_neg (by simpa using h0)]
    have := findM_at L p i (by simpa using h) (fun j hj hji => by have := hn (j + 1) (by simpa using hj) (by omega); simpa using this) (by simpa using he)
    rw [this]
    simp
end Sw
namespace Go.Proofs.YtmpgmgjokliceaaGreatDoor
open Go Go.RowKit
open Sw
end Go.Proofs.YtmpgmgjokliceaaGreatDoor
/- The reference's Get of marks. -/
set_option linter.unusedVariables false
set_option linter.unusedSimpArgs false
namespace Go.Proofs.YtmpgmgjokliceaaGreatDoor
open Go Go.RowKit
open Sw
end Go.Proofs.YtmpgmgjokliceaaGreatDoor
/- The reference's rises of marks: it answers. -/
set_option linter.unusedVariables false
set_option linter.unusedSimpArgs false
namespace Go.Proofs.YtmpgmgjokliceaaGreatDoor
open Go Go.RowKit
open Sw
/-- a mark that came in -/
def MkInS (m : MkE) : Prop := m.1.size ≤ 90000 ∧ 0 ≤ m.2.time ∧ m.2.time < 4294967296
end Go.Proofs.YtmpgmgjokliceaaGreatDoor
/- The reference's Right of a Base: it answers. -/
set_option linter.unusedVariables false
set_option linter.unusedSimpArgs false
namespace Go.Proofs.YtmpgmgjokliceaaGreatDoor
open Go Go.RowKit
open Sw
end Go.Proofs.YtmpgmgjokliceaaGreatDoor
