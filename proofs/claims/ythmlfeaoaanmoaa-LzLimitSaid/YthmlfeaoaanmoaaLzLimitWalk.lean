/- The walk of LzLimit. -/
import Derived.Test.YthmlfeaoaanmoaaLzMatchB
import Derived.Test.YthmlfeaoaanmoaaLzExpandsWalk
set_option linter.unusedVariables false
set_option linter.unusedSimpArgs false
namespace Go.Proofs.Ythmlfeaoaanmoaa
open Go Go.ChangeShapes Go.WideShapes Go.ChangeAt Go.RowKit
open Go.ChangeMaps (open_string shut_string)
open Sw
theorem zerosB (k : Nat) : (madeCells (Value.int .u8 0).cells (k * 1)).toList = bytesV (List.replicate k 0) := by
  apply List.ext_getElem
  · simp [bytesV, madeCells]
  · intro j h1 h2
    simp [bytesV, madeCells, Value.cells, Nat.mod_one]
theorem repB_at (b : UInt8) (i k : Nat) (h : i < k) : (bytesV (List.replicate i b ++ List.replicate (k - i) 0))[i]? = some (.int .u8 0) := by
  have h2 : ¬ k - i = 0 := by omega
  simp [bytesV, List.getElem?_append_right, List.getElem?_replicate, h2]
theorem repB_set (b : UInt8) (i k : Nat) (h : i < k) : (bytesV (List.replicate i b ++ List.replicate (k - i) 0)).set i (.int .u8 (b.toNat : Int)) = bytesV (List.replicate (i + 1) b ++ List.replicate (k - (i + 1)) 0) := by
  unfold bytesV
  rw [← List.map_set (f := fun b : UInt8 => Value.int .u8 (b.toNat : Int))]
  congr 1
  rw [List.set_append_right _ _ (by simp), List.length_replicate, Nat.sub_self, show k - i = (k - (i + 1)) + 1 by omega, List.replicate_succ, List.set_cons_zero, List.replicate_succ', List.append_assoc]
  rfl
theorem info_u8b : (Try.prog.info? 5).map (fun i => (i.zero, i.size, i.bytes)) = some (some (.int .u8 0), 1, 1) := by kernel_rfl
set_option maxRecDepth 100000 in
set_option maxHeartbeats 4000000 in
theorem lzLimit_main (w : World) (b : UInt8) (n : Int) (hn : 0 ≤ n ∧ n ≤ 18446744073709551615) :
    Calls Try.prog 12 #[.int .u8 (b.toNat : Int), .int .u64 n] w fun e w' => e = .returned (.bool true) ∧ Below w.heap.size w w' := by
  obtain ⟨k, hk⟩ : ∃ k : Nat, 64990 + n % 20 = (k : Int) := ⟨(64990 + n % 20).toNat, by omega⟩
  have hk1 : (64990 : Int) ≤ k := by omega
  have hk2 : (k : Int) ≤ 65009 := by omega
  obtain ⟨i0, hi, hz0, hz1, hz2⟩ := info_parts info_u8b
  go_enter Try.func12, Try.ntmps12
  go_wp2_with (at_make; refine wpList_make_full _ rfl _ _ 76 rfl w.heap.size 5 i0 (.int .u8 0) 1 Try.underlying76 hi hz0 hz1 .i64 .i64 k k k rfl rfl rfl rfl (by rw [hz2]; omega) (by unfold maxLen; omega) (Nat.le_refl _) ?_; intro w1 hown hgrow)
  have hb := (Below.refl w.heap.size w).grown hgrow (Nat.le_refl _) (by simp)
  clear hgrow
  rw [zerosB] at hown
  clear hi hz0 hz1 hz2
  have hown0 : w1.ownsRow w.heap.size 5 1 (.slice (some ⟨w.heap.size, 0, none⟩) k k) k (bytesV (List.replicate 0 b ++ List.replicate (k - 0) 0)) := hown
  clear hown hk
  go_loopw [7, 19] (fun _ t wr => ∃ i : Nat, i ≤ k ∧ t = .int .i64 i ∧ wr.ownsRow w.heap.size 5 1 (.slice (some ⟨w.heap.size, 0, none⟩) k k) k (bytesV (List.replicate i b ++ List.replicate (k - i) 0)) ∧ Below w.heap.size w wr) (fun _ t _ => k - (intOf t).toNat)
  case atStart => exact ⟨0, Nat.zero_le _, rfl, hown0, hb⟩
  case round =>
    obtain ⟨i, hik, rfl, hr, hbr⟩ := hrel
    by_cases hlt : i < k
    · have hc := hr.cellAt i (by omega)
      have hf := hr.frozenAt i
      rw [repB_at b i k hlt] at hc
      obtain ⟨hs, hg⟩ := hr.stored i (.int .u8 (b.toNat : Int))
      rw [repB_set b i k hlt] at hs
      have hb' := hbr.grown hg hbr.size (by intro q hq; cases hq; exact Nat.le_refl _)
      have HS := Lib.hid hs; clear hs
      have HB := Lib.hid hb'; clear hb' hg hr
      go_wp2
      go_roundw
      case rel => exact ⟨i + 1, by omega, by go_num, HS.out, HB.out⟩
      case measure => simp [intOf]; omega
    · obtain rfl : i = k := by omega
      clear hlt
      rw [Nat.sub_self, List.replicate_zero, List.append_nil] at hr
      obtain ⟨X, hX⟩ : ∃ X : ByteArray, X = ⟨(List.replicate i b).toArray⟩ := ⟨_, rfl⟩
      have hcv := conv_own (P := Try.prog) 76 9 5 Try.underlying76 Try.underlying5 Try.underlying9 w.heap.size _ i (List.replicate i b) hr
      rw [← hX] at hcv
      have hXs : X.size = i := by rw [hX]; show (List.replicate i b).toArray.size = i; simp
      clear hX hr hown0 hb
      by_cases hbig : (65000 : Int) < i
      · have hM := fun W => (match_big W X 1 (by unfold maxLen; omega) (by omega) (by omega) (by omega)).mono fun e w' h => tok_sl h
        have hP := fun W => (plain_big W X (by unfold maxLen; omega) (by omega)).mono fun e w' h => tok_sl h
        have HM := Lib.hid hM; clear hM
        have HP := Lib.hid hP; clear hP
        clear hXs
        go_wp2_with fail
        refine (HM.out _).mono ?_
        rintro e w3 ⟨v1, rfl, ⟨A1, c1, rfl, hc1, hm1, hs1⟩, hb3⟩
        have hbw3 := hbr.trans (hb3.mono hbr.size)
        go_wp2_with fail
        refine (HP.out _).mono ?_
        rintro e w4 ⟨v2, rfl, ⟨A2, c2, rfl, hc2, hm2, hs2⟩, hb4⟩
        have hbw4 := hbw3.trans (hb4.mono hbw3.size)
        clear hs1 hs2
        go_wp2_with fail
        refine (lz_lives _).mono ?_
        rintro e w7 ⟨rfl, hb7⟩
        go_wp2_with fail
        go_ret
        exact ⟨rfl, hbw4.trans (hb7.mono hbw4.size)⟩
      · have hM := fun W => match_all W X 1 (by omega) (by omega)
        have hP := fun W => (plain_any W X (by omega)).mono fun e w' h => tok_sl h
        have hlen : (litsT X.data.toList).length = i := by simp [litsT]; exact hXs
        have hlx := expT_lits X.data.toList [] (by simp; omega)
        generalize litsT X.data.toList = LT at *
        have HM := Lib.hid hM; clear hM
        have HP := Lib.hid hP; clear hP
        have HLX := Lib.hid hlx; clear hlx
        have HXS := Lib.hid hXs; clear hXs
        go_wp2_with fail
        refine (HM.out _).mono ?_
        rintro e w3 ⟨v1, ts, rfl, ⟨A1, c1, rfl, hc1, hm1, hs1⟩, hb3, hok⟩
        have hbw3 := hbr.trans (hb3.mono hbr.size)
        have hpos := hok.pos (by have := HXS.out; omega)
        have hts : ts.length ≤ i := by have := hok.len; have := HXS.out; omega
        have hx1 : (expT ts []).isSome = true := by rw [hok.exp]; rfl
        have HX1 := Lib.hid hx1; clear hx1 hok
        have HS1 := Lib.hid hs1; clear hs1
        go_wp2_with fail
        refine (HP.out _).mono ?_
        rintro e w4 ⟨v2, rfl, ⟨A2, c2, rfl, hc2, hm2, hs2⟩, hb4⟩
        have hbw4 := hbw3.trans (hb4.mono hbw3.size)
        have hR1 := right_any w4 A1 ts.length c1 ts rfl (by omega) (HS1.out.below hb4 (Nat.le_refl _))
        have hR2 := fun W (hb : Below w4.heap.size w4 W) => right_any W A2 i c2 LT hlen (by omega) (hs2.below hb (Nat.le_refl _))
        rw [HX1.out] at hR1
        rw [show (expT LT []).isSome = true by rw [HLX.out]; rfl] at hR2
        have HR1 := Lib.hid hR1; clear hR1 HS1
        have HR2 := Lib.hid hR2; clear hR2 hs2
        have hli : ((LT.length : Int) == (i : Int)) = true := by rw [beq_iff_eq]; omega
        have hlp : (0 : Int) < ts.length := by omega
        clear HX1 HLX
        go_wp2_with fail
        refine HR1.out.mono ?_
        rintro e w5 ⟨rfl, hb5⟩
        go_wp2_with fail
        with_reducible refine (HR2.out _ hb5).mono ?_
        rintro e w6 ⟨rfl, hb6⟩
        have hbw6 := hbw4.trans ((hb5.trans (hb6.mono hb5.size)).mono hbw4.size)
        go_wp2_with fail
        refine (lz_lives _).mono ?_
        rintro e w7 ⟨rfl, hb7⟩
        go_wp2_with fail
        go_ret
        exact ⟨rfl, hbw6.trans (hb7.mono hbw6.size)⟩
set_option maxRecDepth 100000 in
theorem lzLimit_walk : Walks 12 Try.f12 := by
  intro H enc W base args ds ps hval hA hlt hsz
  rw [Try.params12] at hA hval
  obtain ⟨v0, v1, d0, d1, p0, p1, rfl, rfl, rfl, h0, h1⟩ := trodAll_two hA
  obtain ⟨a, rfl, rfl, rfl, wa⟩ := open_int Try.underlying5 (hval 0 5 v0 rfl rfl) h0
  obtain ⟨b, rfl, rfl, rfl, wb⟩ := open_int Try.underlying65 (hval 1 65 v1 rfl rfl) h1
  obtain ⟨k0, k1⟩ := bounds_u8 wa
  have e : a = ((UInt8.ofNat a.toNat).toNat : Int) := by
    have : (UInt8.ofNat a.toNat).toNat = a.toNat := by simp; omega
    rw [this]; omega
  rw [e]
  exact lzLimit_main W _ b (by have := bounds_u64 wb; omega)
end Go.Proofs.Ythmlfeaoaanmoaa
