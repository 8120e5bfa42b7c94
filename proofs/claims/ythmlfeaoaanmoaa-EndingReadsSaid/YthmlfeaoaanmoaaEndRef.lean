/- Contracts of the reference of layer 21. -/
import Derived.Test.YthmlfeaoaanmoaaEndPlain
set_option linter.unusedVariables false
set_option linter.unusedSimpArgs false
namespace Go.Proofs.Ythmlfeaoaanmoaa
open Go.RowKit
open Sw
set_option maxRecDepth 100000 in
set_option maxHeartbeats 2000000 in
theorem rEndRight_any (m s a r : Int) (w : World) :
    Calls Try.prog 72 #[.agg #[.int .i64 m, .int .i64 s, .int .i64 a, .int .i64 r]] w fun e w' => e = .returned (.bool (rI m s a r)) ∧ Below w.heap.size w w' := by
  have HB := Lib.hid ((Below.refl w.heap.size w).alloc (Nat.le_refl _) (.cells #[.int .i64 m, .int .i64 s, .int .i64 a, .int .i64 r] 87))
  obtain ⟨q, hq⟩ : ∃ q, rI m s a r = q := ⟨_, rfl⟩
  rw [hq]
  have HQ := Lib.hid hq; clear hq
  go_enter Try.func72, Try.ntmps72
  go_wp2
  all_goals
    go_ret
    refine ⟨?_, HB.out⟩
    rw [← HQ.out]
    first
      | (show Ending.returned (Value.bool false) = _; congr 2; symm; simp [rI]; omega)
      | (show Ending.returned (Value.bool (decide (a < 2147483648))) = _; congr 2; unfold rI; simp only [decide_eq_decide]; omega)
theorem ext_size (t : ByteArray) (n : Nat) (h : n ≤ t.size) : (t.extract n t.size).size = t.size - n := by simp [ByteArray.size_extract]
set_option maxRecDepth 100000 in
theorem refAt_any (t : ByteArray) (off n : Nat) (w : World) (ht : t.size ≤ maxLen) (hn : n ≤ 4) (h : off + n ≤ t.size) :
    Calls Try.prog 71 #[.string t, .int .i64 off, .int .i64 n] w fun e w' => e = .returned (.int .i64 (numL t off n)) ∧ w = w' := by
  obtain ⟨u, hu⟩ : ∃ u, t.extract off t.size = u := ⟨_, rfl⟩
  have hul : u.data.toList = t.data.toList.drop off := by
    rw [← hu, ByteArray.data_extract, Array.toList_extract, List.extract_eq_take_drop, List.take_of_length_le]
    rw [List.length_drop, Array.length_toList]; exact Nat.le_refl _
  have hus : u.size = t.size - off := by rw [← hu]; exact ext_size t off (by omega)
  have hg := fun W => refGet_yes u n W (by unfold maxLen at *; omega) (by omega) (by omega)
  have hv : leN (u.data.toList.take n) = numL t off n := by unfold numL; rw [hul]
  rw [hv] at hg
  have hlt : numL t off n < 2 ^ 32 := by
    unfold numL
    have h1 := leN_lt ((t.data.toList.drop off).take n)
    have h2 : ((t.data.toList.drop off).take n).length ≤ 4 := by rw [List.length_take]; omega
    have : 256 ^ ((t.data.toList.drop off).take n).length ≤ 256 ^ 4 := Nat.pow_le_pow_right (by omega) h2
    omega
  have hwr : IntKind.i64.wrap (numL t off n : Int) = numL t off n := IntWalk.i64_in _ (by omega)
  unfold maxLen at ht
  have ho : (0 : Int) ≤ off := by omega
  have ho2 : (off : Int) ≤ t.size := by omega
  clear hv hul hus
  go_enter Try.func71, Try.ntmps71
  go_wp2_with (go_at_call 84; refine (hg _).mono ?_; rintro e w1 ⟨rfl, rfl⟩)
  go_ret
  exact ⟨rfl, rfl⟩
set_option maxRecDepth 100000 in
set_option maxHeartbeats 2000000 in
theorem refRead_out (s : ByteArray) (a : Int) (w : World) (hs : s.size ≤ maxLen) (ha : a < 0 ∨ (s.size : Int) < a ∨ (s.size : Int) - a < 22) :
    Calls Try.prog 49 #[.string s, .int .i64 a] w fun e w' => e = .returned (.tuple #[.agg #[.int .i64 0, .int .i64 0, .int .i64 0, .int .i64 0], .bool false]) ∧ Below w.heap.size w w' := by
  have hM := Blk.new w 87 #[.int .i64 0, .int .i64 0, .int .i64 0, .int .i64 0]
  have hB : Below w.heap.size w (w.alloc (.cells #[.int .i64 0, .int .i64 0, .int .i64 0, .int .i64 0] 87)) := (Below.refl _ w).alloc (Nat.le_refl _) _
  have fin : ∀ (fn : Func) (tm : Array Value), fn.results = #[.cell 4 87, .tmp 5] → tm.getD 4 undef = .pointer (some ⟨w.heap.size, 0, none⟩) → (results fn tm).run Try.prog (w.alloc (.cells #[.int .i64 0, .int .i64 0, .int .i64 0, .int .i64 0] 87)) = .ok (.tuple #[.agg #[.int .i64 0, .int .i64 0, .int .i64 0, .int .i64 0], tm.getD 5 undef]) (w.alloc (.cells #[.int .i64 0, .int .i64 0, .int .i64 0, .int .i64 0] 87)) :=
    fun fn tm h1 h2 => res_blk_tmp h1 tm _ w.heap.size 87 _ _ h2 hM Try.underlying87 rfl (by kernel_rfl)
  have HF := Lib.hid (And.intro fin hB)
  clear fin hM hB
  unfold maxLen at hs
  by_cases h0 : a < 0
  · go_enter Try.func49, Try.ntmps49
    go_wp2_with fail
    exact bodyPost_ret (HF.out.1 _ _ rfl rfl) rfl ⟨rfl, HF.out.2⟩
  · have h2 : 0 ≤ a := by omega
    by_cases h1 : (s.size : Int) < a
    · clear ha
      go_enter Try.func49, Try.ntmps49
      go_wp2_with fail
      exact bodyPost_ret (HF.out.1 _ _ rfl rfl) rfl ⟨rfl, HF.out.2⟩
    · have h3 : (s.size : Int) - a < 22 := by omega
      clear ha
      go_enter Try.func49, Try.ntmps49
      go_wp2_with fail
      exact bodyPost_ret (HF.out.1 _ _ rfl rfl) rfl ⟨rfl, HF.out.2⟩
set_option maxRecDepth 100000 in
set_option maxHeartbeats 16000000 in
theorem refRead_in (s : ByteArray) (a : Nat) (w : World) (hs : s.size ≤ maxLen) (ha : a + 22 ≤ s.size) :
    Calls Try.prog 49 #[.string s, .int .i64 a] w fun e w' => e = .returned (endW (s.extract a s.size)) ∧ Below w.heap.size w w' := by
  have hts : (s.extract a s.size).size = s.size - a := ext_size s a (by omega)
  obtain ⟨t, ht⟩ : ∃ t, s.extract a s.size = t := ⟨_, rfl⟩
  rw [ht] at hts ⊢
  have ht22 : 22 ≤ t.size := by omega
  have htm : t.size ≤ maxLen := by omega
  have c1 := fun W => refAt_any t 8 2 W htm (by omega) (by omega)
  have c2 := fun W => refAt_any t 12 4 W htm (by omega) (by omega)
  have c3 := fun W => refAt_any t 16 4 W htm (by omega) (by omega)
  have c4 := fun W => refAt_any t 20 2 W htm (by omega) (by omega)
  have HC := Lib.hid (And.intro c1 (And.intro c2 (And.intro c3 c4))); clear c1 c2 c3 c4
  have HTS := Lib.hid hts; clear hts
  unfold maxLen at hs htm
  have ha0 : (0 : Int) ≤ a := by omega
  have ha1 : (a : Int) ≤ s.size := by omega
  have ha2 : ¬ (s.size : Int) - a < 22 := by omega
  go_enter Try.func49, Try.ntmps49
  go_wp2_with fail
  refine (HC.out.1 _).mono ?_
  rintro e w1 ⟨rfl, rfl⟩
  go_wp2_with fail
  refine (HC.out.2.1 _).mono ?_
  rintro e w1 ⟨rfl, rfl⟩
  go_wp2_with fail
  refine (HC.out.2.2.1 _).mono ?_
  rintro e w1 ⟨rfl, rfl⟩
  go_wp2_with fail
  refine (HC.out.2.2.2 _).mono ?_
  rintro e w1 ⟨rfl, rfl⟩
  go_wp2_with fail
  have hRb := blk_fst w #[.int .i64 0, .int .i64 0, .int .i64 0, .int .i64 0] 87 (.cells #[.int .i64 (numL t 8 2 : Int), .int .i64 (numL t 12 4 : Int), .int .i64 (numL t 16 4 : Int), .int .i64 (numL t 20 2 : Int)] 87)
  have hXb := blk_snd w (.cells #[.int .i64 0, .int .i64 0, .int .i64 0, .int .i64 0] 87) #[.int .i64 (numL t 8 2 : Int), .int .i64 (numL t 12 4 : Int), .int .i64 (numL t 16 4 : Int), .int .i64 (numL t 20 2 : Int)] 87
  have hBb : Below w.heap.size w ((w.alloc (.cells #[.int .i64 0, .int .i64 0, .int .i64 0, .int .i64 0] 87)).alloc (.cells #[.int .i64 (numL t 8 2 : Int), .int .i64 (numL t 12 4 : Int), .int .i64 (numL t 16 4 : Int), .int .i64 (numL t 20 2 : Int)] 87)) := ((Below.refl _ w).alloc (Nat.le_refl _) _).alloc (by simp) _
  have hz2 : ((w.alloc (.cells #[.int .i64 0, .int .i64 0, .int .i64 0, .int .i64 0] 87)).alloc (.cells #[.int .i64 (numL t 8 2 : Int), .int .i64 (numL t 12 4 : Int), .int .i64 (numL t 16 4 : Int), .int .i64 (numL t 20 2 : Int)] 87)).heap.size = w.heap.size + 1 + 1 := by simp
  generalize ((w.alloc (.cells #[.int .i64 0, .int .i64 0, .int .i64 0, .int .i64 0] 87)).alloc (.cells #[.int .i64 (numL t 8 2 : Int), .int .i64 (numL t 12 4 : Int), .int .i64 (numL t 16 4 : Int), .int .i64 (numL t 20 2 : Int)] 87)) = w2 at *
  obtain ⟨R, hR⟩ : ∃ R, R = w.heap.size := ⟨_, rfl⟩
  have HR := Lib.hid hR
  rw [← hR] at hRb hXb hBb hz2 ⊢
  clear hR
  have hok : okR t = (decide (t.extract 0 8 = beginE) && decide (t.extract 8 10 = t.extract 10 12) && rI (numL t 8 2) (numL t 12 4) (numL t 16 4) (numL t 20 2) && decide ((t.size : Int) = 22 + numL t 20 2)) := rfl
  have hvv : endW t = if okR t then .tuple #[.agg #[.int .i64 (numL t 8 2), .int .i64 (numL t 12 4), .int .i64 (numL t 16 4), .int .i64 (numL t 20 2)], .bool true] else .tuple #[.agg #[.int .i64 0, .int .i64 0, .int .i64 0, .int .i64 0], .bool false] := rfl
  have hn4 : numL t 20 2 < 2 ^ 32 := by
    unfold numL
    have h1 := leN_lt ((t.data.toList.drop 20).take 2)
    have h2 : ((t.data.toList.drop 20).take 2).length ≤ 2 := by rw [List.length_take]; omega
    have : 256 ^ ((t.data.toList.drop 20).take 2).length ≤ 256 ^ 2 := Nat.pow_le_pow_right (by omega) h2
    omega
  generalize numL t 8 2 = v2 at *
  generalize numL t 12 4 = v4 at *
  generalize numL t 16 4 = v5 at *
  generalize numL t 20 2 = v6 at *
  clear HC
  obtain ⟨x8, hx8⟩ : ∃ x, t.extract 0 8 = x := ⟨_, rfl⟩
  obtain ⟨y8, hy8⟩ : ∃ x, t.extract 8 10 = x := ⟨_, rfl⟩
  obtain ⟨y10, hy10⟩ : ∃ x, t.extract 10 12 = x := ⟨_, rfl⟩
  rw [hx8, hy8, hy10] at hok
  have HVV := Lib.hid hvv; clear hvv
  have HOK := Lib.hid hok; clear hok
  have HS := Lib.hid (And.intro hRb (And.intro hXb hBb)); clear hRb hXb hBb
  have k1 : ∀ n : Held (Aft w2), (HeldW n).cell? ⟨R + 1, 0, none⟩ = some (.int .i64 (v2 : Int)) := fun n => (Aft.cell n HS.out.2.1.lt).trans (by simpa using HS.out.2.1.cell 0)
  have k2 : ∀ n : Held (Aft w2), (HeldW n).cell? ⟨R + 1, 1, none⟩ = some (.int .i64 (v4 : Int)) := fun n => (Aft.cell n HS.out.2.1.lt).trans (by simpa using HS.out.2.1.cell 1)
  have k3 : ∀ n : Held (Aft w2), (HeldW n).cell? ⟨R + 1, 2, none⟩ = some (.int .i64 (v5 : Int)) := fun n => (Aft.cell n HS.out.2.1.lt).trans (by simpa using HS.out.2.1.cell 2)
  have k4 : ∀ n : Held (Aft w2), (HeldW n).cell? ⟨R + 1, 3, none⟩ = some (.int .i64 (v6 : Int)) := fun n => (Aft.cell n HS.out.2.1.lt).trans (by simpa using HS.out.2.1.cell 3)
  haveI := Aft.some w2
  have hc := fun W => rEndRight_any v2 v4 v5 v6 W
  have t22 : (22 : Int) ≤ t.size := by omega
  have hw22 : IntKind.i64.wrap (22 + (v6 : Int)) = 22 + v6 := IntWalk.i64_in _ (by omega)
  have tb : ∀ u v : ByteArray, (u.toList == v.toList) = decide (u = v) := fun u v => by
    rw [ByteArray.toList_eq, ByteArray.toList_eq, Bool.eq_iff_iff]
    simp only [beq_iff_eq, decide_eq_true_eq]
    exact ⟨bytes_ext, fun h => by rw [h]⟩
  have qa0 := tb x8 beginE
  have qb0 := tb y8 y10
  have hbe : beginE.toList = [80, 75, 5, 6, 0, 0, 0, 0] := by rw [ByteArray.toList_eq]; rfl
  rw [hbe] at qa0
  clear tb hbe
  cases hA : decide (x8 = beginE) with
  | false =>
    rw [hA] at qa0
    have hno : ¬ okR t = true := by rw [HOK.out, hA]; simp
    have HNO := Lib.hid hno; clear hno hA qb0
    have HC := Lib.hid hc; clear hc
    refine wp_region_class (Aft w2) (by kernel_rfl) (by kernel_rfl) (Aft.start w2) ?_
    repeat (go_big_quiet_step (first | with_reducible exact held_below Aft.keep (HC.out _)))
    refine wpQuiet_nil ?_
    rintro _ ⟨nn, rfl⟩
    have HW : Hid (Below w2.heap.size w2 (HeldW nn)) := Lib.hid (HeldW_spec nn)
    generalize HeldW nn = w11 at *
    clear k1 k2 k3 k4 nn
    have hrs := HS.out.1.below HW.out HS.out.1.lt
    have hX := HS.out.2.1.below HW.out HS.out.2.1.lt
    have hbe := HS.out.2.2.trans (HW.out.mono (by omega))
    have m0 := hrs.cell 0
    have m1 := hrs.cell 1
    have m2 := hrs.cell 2
    have m3 := hrs.cell 3
    have f0 := hrs.frozen 0
    have f1 := hrs.frozen 1
    have f2 := hrs.frozen 2
    have f3 := hrs.frozen 3
    have x0 := hX.cell 0
    have x1 := hX.cell 1
    have x2 := hX.cell 2
    have x3 := hX.cell 3
    simp at m0 m1 m2 m3 x0 x1 x2 x3
    have HQ := Lib.hid (And.intro hrs hbe); clear hrs hX hbe
    go_wp2_with fail
    refine bodyPost_ret (res_blk_tmp rfl _ _ R 87 #[.int .i64 0, .int .i64 0, .int .i64 0, .int .i64 0] _ rfl ((((HQ.out.1.put 0 (.int .i64 0)).put 1 (.int .i64 0)).put 2 (.int .i64 0)).put 3 (.int .i64 0)) Try.underlying87 rfl (by kernel_rfl)) rfl ⟨by rw [HVV.out, if_neg HNO.out]; rfl, ?_⟩
    rw [← HR.out]
    exact (((HQ.out.2.setCell (p := ⟨R, 0, none⟩) (Nat.le_refl _) _).setCell (p := ⟨R, 1, none⟩) (Nat.le_refl _) _).setCell (p := ⟨R, 2, none⟩) (Nat.le_refl _) _).setCell (p := ⟨R, 3, none⟩) (Nat.le_refl _) _
  | true =>
    rw [hA] at qa0
    cases hB : decide (y8 = y10) with
    | false =>
      rw [hB] at qb0
      have hno : ¬ okR t = true := by rw [HOK.out, hA, hB]; simp
      have HNO := Lib.hid hno; clear hno hA hB
      have HC := Lib.hid hc; clear hc
      refine wp_region_class (Aft w2) (by kernel_rfl) (by kernel_rfl) (Aft.start w2) ?_
      repeat (go_big_quiet_step (first | with_reducible exact held_below Aft.keep (HC.out _)))
      refine wpQuiet_nil ?_
      rintro _ ⟨nn, rfl⟩
      have HW : Hid (Below w2.heap.size w2 (HeldW nn)) := Lib.hid (HeldW_spec nn)
      generalize HeldW nn = w11 at *
      clear k1 k2 k3 k4 nn
      have hrs := HS.out.1.below HW.out HS.out.1.lt
      have hX := HS.out.2.1.below HW.out HS.out.2.1.lt
      have hbe := HS.out.2.2.trans (HW.out.mono (by omega))
      have m0 := hrs.cell 0
      have m1 := hrs.cell 1
      have m2 := hrs.cell 2
      have m3 := hrs.cell 3
      have f0 := hrs.frozen 0
      have f1 := hrs.frozen 1
      have f2 := hrs.frozen 2
      have f3 := hrs.frozen 3
      have x0 := hX.cell 0
      have x1 := hX.cell 1
      have x2 := hX.cell 2
      have x3 := hX.cell 3
      simp at m0 m1 m2 m3 x0 x1 x2 x3
      have HQ := Lib.hid (And.intro hrs hbe); clear hrs hX hbe
      go_wp2_with fail
      refine bodyPost_ret (res_blk_tmp rfl _ _ R 87 #[.int .i64 0, .int .i64 0, .int .i64 0, .int .i64 0] _ rfl ((((HQ.out.1.put 0 (.int .i64 0)).put 1 (.int .i64 0)).put 2 (.int .i64 0)).put 3 (.int .i64 0)) Try.underlying87 rfl (by kernel_rfl)) rfl ⟨by rw [HVV.out, if_neg HNO.out]; rfl, ?_⟩
      rw [← HR.out]
      exact (((HQ.out.2.setCell (p := ⟨R, 0, none⟩) (Nat.le_refl _) _).setCell (p := ⟨R, 1, none⟩) (Nat.le_refl _) _).setCell (p := ⟨R, 2, none⟩) (Nat.le_refl _) _).setCell (p := ⟨R, 3, none⟩) (Nat.le_refl _) _
    | true =>
      rw [hB] at qb0
      cases hri : rI v2 v4 v5 v6 with
      | false =>
        rw [hri] at hc
        have hno : ¬ okR t = true := by rw [HOK.out, hA, hB, hri]; simp
        have HNO := Lib.hid hno; clear hno hA hB hri
        have HC := Lib.hid hc; clear hc
        refine wp_region_class (Aft w2) (by kernel_rfl) (by kernel_rfl) (Aft.start w2) ?_
        repeat (go_big_quiet_step (first | with_reducible exact held_below Aft.keep (HC.out _)))
        refine wpQuiet_nil ?_
        rintro _ ⟨nn, rfl⟩
        have HW : Hid (Below w2.heap.size w2 (HeldW nn)) := Lib.hid (HeldW_spec nn)
        generalize HeldW nn = w11 at *
        clear k1 k2 k3 k4 nn
        have hrs := HS.out.1.below HW.out HS.out.1.lt
        have hX := HS.out.2.1.below HW.out HS.out.2.1.lt
        have hbe := HS.out.2.2.trans (HW.out.mono (by omega))
        have m0 := hrs.cell 0
        have m1 := hrs.cell 1
        have m2 := hrs.cell 2
        have m3 := hrs.cell 3
        have f0 := hrs.frozen 0
        have f1 := hrs.frozen 1
        have f2 := hrs.frozen 2
        have f3 := hrs.frozen 3
        have x0 := hX.cell 0
        have x1 := hX.cell 1
        have x2 := hX.cell 2
        have x3 := hX.cell 3
        simp at m0 m1 m2 m3 x0 x1 x2 x3
        have HQ := Lib.hid (And.intro hrs hbe); clear hrs hX hbe
        go_wp2_with fail
        refine bodyPost_ret (res_blk_tmp rfl _ _ R 87 #[.int .i64 0, .int .i64 0, .int .i64 0, .int .i64 0] _ rfl ((((HQ.out.1.put 0 (.int .i64 0)).put 1 (.int .i64 0)).put 2 (.int .i64 0)).put 3 (.int .i64 0)) Try.underlying87 rfl (by kernel_rfl)) rfl ⟨by rw [HVV.out, if_neg HNO.out]; rfl, ?_⟩
        rw [← HR.out]
        exact (((HQ.out.2.setCell (p := ⟨R, 0, none⟩) (Nat.le_refl _) _).setCell (p := ⟨R, 1, none⟩) (Nat.le_refl _) _).setCell (p := ⟨R, 2, none⟩) (Nat.le_refl _) _).setCell (p := ⟨R, 3, none⟩) (Nat.le_refl _) _
      | true =>
        rw [hri] at hc
        by_cases hlf : (t.size : Int) = 22 + v6
        · have hyes : okR t = true := by rw [HOK.out, hA, hB, hri, decide_eq_true hlf]; rfl
          have HYES := Lib.hid hyes; clear hyes hA hB hri
          have q3 : ((t.size : Int) == (22 + (v6 : Int))) = true := by rw [beq_iff_eq]; exact hlf
          have q4 : ((t.size : Int) != (22 + (v6 : Int))) = false := by rw [bne, q3]; rfl
          have HC := Lib.hid hc; clear hc hlf
          refine wp_region_class (Aft w2) (by kernel_rfl) (by kernel_rfl) (Aft.start w2) ?_
          repeat (go_big_quiet_step (first | with_reducible exact held_below Aft.keep (HC.out _)))
          refine wpQuiet_nil ?_
          rintro _ ⟨nn, rfl⟩
          have HW : Hid (Below w2.heap.size w2 (HeldW nn)) := Lib.hid (HeldW_spec nn)
          generalize HeldW nn = w11 at *
          clear k1 k2 k3 k4 nn
          have hrs := HS.out.1.below HW.out HS.out.1.lt
          have hX := HS.out.2.1.below HW.out HS.out.2.1.lt
          have hbe := HS.out.2.2.trans (HW.out.mono (by omega))
          have m0 := hrs.cell 0
          have m1 := hrs.cell 1
          have m2 := hrs.cell 2
          have m3 := hrs.cell 3
          have f0 := hrs.frozen 0
          have f1 := hrs.frozen 1
          have f2 := hrs.frozen 2
          have f3 := hrs.frozen 3
          have x0 := hX.cell 0
          have x1 := hX.cell 1
          have x2 := hX.cell 2
          have x3 := hX.cell 3
          simp at m0 m1 m2 m3 x0 x1 x2 x3
          have HQ := Lib.hid (And.intro hrs hbe); clear hrs hX hbe
          go_wp2_with fail
          refine bodyPost_ret (res_blk_tmp rfl _ _ R 87 #[.int .i64 v2, .int .i64 v4, .int .i64 v5, .int .i64 v6] _ rfl ((((HQ.out.1.put 0 (.int .i64 v2)).put 1 (.int .i64 v4)).put 2 (.int .i64 v5)).put 3 (.int .i64 v6)) Try.underlying87 rfl (by kernel_rfl)) rfl ⟨by rw [HVV.out, if_pos HYES.out]; rfl, ?_⟩
          rw [← HR.out]
          exact (((HQ.out.2.setCell (p := ⟨R, 0, none⟩) (Nat.le_refl _) _).setCell (p := ⟨R, 1, none⟩) (Nat.le_refl _) _).setCell (p := ⟨R, 2, none⟩) (Nat.le_refl _) _).setCell (p := ⟨R, 3, none⟩) (Nat.le_refl _) _
        · have hno : ¬ okR t = true := by rw [HOK.out, decide_eq_false hlf]; simp
          have HNO := Lib.hid hno; clear hno hA hB hri
          have q3 : ((t.size : Int) == (22 + (v6 : Int))) = false := by rw [beq_eq_false_iff_ne]; exact hlf
          have q4 : ((t.size : Int) != (22 + (v6 : Int))) = true := by rw [bne, q3]; rfl
          have HC := Lib.hid hc; clear hc hlf
          refine wp_region_class (Aft w2) (by kernel_rfl) (by kernel_rfl) (Aft.start w2) ?_
          repeat (go_big_quiet_step (first | with_reducible exact held_below Aft.keep (HC.out _)))
          refine wpQuiet_nil ?_
          rintro _ ⟨nn, rfl⟩
          have HW : Hid (Below w2.heap.size w2 (HeldW nn)) := Lib.hid (HeldW_spec nn)
          generalize HeldW nn = w11 at *
          clear k1 k2 k3 k4 nn
          have hrs := HS.out.1.below HW.out HS.out.1.lt
          have hX := HS.out.2.1.below HW.out HS.out.2.1.lt
          have hbe := HS.out.2.2.trans (HW.out.mono (by omega))
          have m0 := hrs.cell 0
          have m1 := hrs.cell 1
          have m2 := hrs.cell 2
          have m3 := hrs.cell 3
          have f0 := hrs.frozen 0
          have f1 := hrs.frozen 1
          have f2 := hrs.frozen 2
          have f3 := hrs.frozen 3
          have x0 := hX.cell 0
          have x1 := hX.cell 1
          have x2 := hX.cell 2
          have x3 := hX.cell 3
          simp at m0 m1 m2 m3 x0 x1 x2 x3
          have HQ := Lib.hid (And.intro hrs hbe); clear hrs hX hbe
          go_wp2_with fail
          refine bodyPost_ret (res_blk_tmp rfl _ _ R 87 #[.int .i64 0, .int .i64 0, .int .i64 0, .int .i64 0] _ rfl ((((HQ.out.1.put 0 (.int .i64 0)).put 1 (.int .i64 0)).put 2 (.int .i64 0)).put 3 (.int .i64 0)) Try.underlying87 rfl (by kernel_rfl)) rfl ⟨by rw [HVV.out, if_neg HNO.out]; rfl, ?_⟩
          rw [← HR.out]
          exact (((HQ.out.2.setCell (p := ⟨R, 0, none⟩) (Nat.le_refl _) _).setCell (p := ⟨R, 1, none⟩) (Nat.le_refl _) _).setCell (p := ⟨R, 2, none⟩) (Nat.le_refl _) _).setCell (p := ⟨R, 3, none⟩) (Nat.le_refl _) _
end Go.Proofs.Ythmlfeaoaanmoaa
