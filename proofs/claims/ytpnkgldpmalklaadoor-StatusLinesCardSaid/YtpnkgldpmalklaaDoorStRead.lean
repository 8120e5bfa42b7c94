/- The contract of status.Read. -/
import Derived.Test.YtpnkgldpmalklaaDoorStLnB
import Derived.Test.YtpnkgldpmalklaaDoorShelf1
set_option linter.unusedVariables false
set_option linter.unusedSimpArgs false
namespace Sw
open Go Go.RowKit
theorem cut_len (a b : List UInt8) : (Lib.cut a b).1.length ≤ a.length ∧ (Lib.cut a b).2.1.length ≤ a.length := by
  unfold Lib.cut
  split
  · simp only [List.length_take, List.length_drop]; omega
  · simp
theorem cut2_size (s : ByteArray) : (cut2 s).size ≤ s.size := by
  have := (cut_len s.data.toList [32]).2
  show (Lib.cut s.data.toList [32]).2.1.toArray.size ≤ s.data.size
  simpa using this
theorem rdP_size (s : ByteArray) : (rdP s).size ≤ s.size := by
  unfold rdP
  split
  · exact Nat.le_trans (cut2_size _) (cut2_size _)
  · exact cut2_size _
theorem strT (s t : ByteArray) : (s.toList == t.toList) = decide (s = t) := by
  rw [ByteArray.toList_eq, ByteArray.toList_eq]
  by_cases h : s = t
  · subst h
    rw [decide_eq_true rfl]
    simp
  · rw [decide_eq_false h, beq_eq_false_iff_ne]
    intro e
    exact h (ByteArray.ext (Array.ext' e))
theorem wordC_bd (x : ByteArray) : 0 ≤ wordC x ∧ wordC x ≤ 3 := by
  unfold wordC
  split
  · omega
  · split
    · omega
    · split <;> omega
theorem index_hi : ∀ (a b : List UInt8), -1 ≤ Lib.index a b ∧ Lib.index a b ≤ a.length
  | [], b => by unfold Lib.index; split <;> simp
  | x :: a, b => by
    unfold Lib.index
    have := index_hi a b
    split
    · simp; omega
    · split
      · simp; omega
      · simp; omega
end Sw
namespace Go.Proofs.YtpnkgldpmalklaaDoor
open Go Go.RowKit
open Sw
set_option maxRecDepth 100000 in
set_option maxHeartbeats 1000000 in
theorem stRead1_any (w : World) (g : Nat) (n : Int) (x : ByteArray) (hc : w.cell? ⟨g, 0, none⟩ = some (.string x)) :
    Calls Tryd.prog 15 #[.int .i64 n, .pointer (some ⟨g, 0, none⟩)] w fun e w' => e = .returned (.bool ((clsS n).toList == x.toList)) ∧ Below w.heap.size w w' := by
  have hl : ∀ m, (w.drewN m).cell? ⟨g, 0, none⟩ = some (.string x) := fun m => hc
  have HC := Lib.hid (fun W => stClass_any W n)
  generalize clsS n = C at *
  go_enter Tryd.func15, Tryd.ntmps15
  go_wp2_with fail
  go_quiet ((go_at_call 10; exact Calls.quiet_of_same ((HC.out _).mono fun _ _ h => ⟨h.1, h.2.symm⟩)))
  go_wp2_with fail
  go_ret
  exact ⟨rfl, below_drewN (Below.refl _ _) _⟩
set_option maxRecDepth 100000 in
set_option maxHeartbeats 4000000 in
theorem stIdx_any (w : World) (b g : Nat) (x : ByteArray) (hB : Blk w b 3 #[.int .i64 1, .int .i64 2, .int .i64 3]) (hg : w.cell? ⟨g, 0, none⟩ = some (.string x)) :
    Calls Tryd.prog 14 #[.slice (some ⟨b, 0, none⟩) 3 3, .func (.func 15) #[] #[.pointer (some ⟨g, 0, none⟩)]] w fun e w' => e = .returned (.int .i64 (wordC x - 1)) ∧ Below w.heap.size w w' := by
  have hgl := World.block_lt_of_cell? w _ hg
  have hbl := hB.lt
  have HR := Lib.hid (fun W n (h : Below w.heap.size w W) => (by
    have := stRead1_any W g n x ((h.cell (p := ⟨g, 0, none⟩) hgl).trans hg)
    rw [strT] at this
    exact this : Calls Tryd.prog 15 #[.int .i64 n, .pointer (some ⟨g, 0, none⟩)] W fun e w' => e = .returned (.bool (decide (clsS n = x))) ∧ Below W.heap.size W w'))
  have HBK := Lib.hid hB; clear hB hg
  have HW := Lib.hid (show wordC x = if x = clsS 1 then 1 else if x = clsS 2 then 2 else if x = clsS 3 then 3 else 0 from rfl)
  generalize wordC x = R at *
  go_enter Tryd.func14, Tryd.ntmps14
  go_wp2_with fail
  go_loopw [4, 5, 8] (fun r _ iv wr => ∃ i : Nat, i ≤ 3 ∧ r = .int .i64 0 ∧ iv = .int .i64 i ∧ (∀ j : Nat, j < i → ¬ clsS ((j : Int) + 1) = x) ∧ Below w.heap.size w wr) (fun _ _ iv _ => 3 - (intOf iv).toNat)
  case atStart => exact ⟨0, by omega, rfl, rfl, fun j h => by omega, Below.refl _ _⟩
  case round =>
    obtain ⟨i, hi, rfl, rfl, hall, hbr⟩ := hrel
    have HA := Lib.hid hall; clear hall
    by_cases hlt : i < 3
    · have hci := (HBK.out.below hbr hbl).cell i
      have hci2 : wr.cell? ⟨b, i, none⟩ = some (.int .i64 ((i : Int) + 1)) := by
        rw [hci]
        obtain rfl | rfl | rfl : i = 0 ∨ i = 1 ∨ i = 2 := by omega
        all_goals rfl
      clear hci
      have HC := Lib.hid (HR.out wr ((i : Int) + 1) hbr)
      have hi1 : (i : Int) < 3 := by omega
      by_cases hx : clsS ((i : Int) + 1) = x
      · rw [decide_eq_true hx] at HC
        have hR : R - 1 = i := by
          rw [HW.out]
          have h0 := HA.out
          obtain rfl | rfl | rfl : i = 0 ∨ i = 1 ∨ i = 2 := by omega
          · rw [if_pos (show x = clsS 1 from hx.symm)]; rfl
          · rw [if_neg (show ¬ x = clsS 1 from fun h => h0 0 (by omega) h.symm), if_pos (show x = clsS 2 from hx.symm)]; rfl
          · rw [if_neg (show ¬ x = clsS 1 from fun h => h0 0 (by omega) h.symm), if_neg (show ¬ x = clsS 2 from fun h => h0 1 (by omega) h.symm), if_pos (show x = clsS 3 from hx.symm)]; rfl
        have HRR := Lib.hid hR
        clear hx hR
        go_wp2_with fail
        refine HC.out.mono ?_
        rintro e w2 ⟨rfl, hb2⟩
        go_wp2_with fail
        go_ret
        exact ⟨by rw [HRR.out]; rfl, hbr.trans (hb2.mono hbr.size)⟩
      · rw [decide_eq_false hx] at HC
        have HN := Lib.hid (fun (j : Nat) (h : j < i + 1) => (by
          by_cases h2 : j < i
          · exact HA.out j h2
          · obtain rfl : j = i := by omega
            exact hx : ¬ clsS ((j : Int) + 1) = x))
        clear hx
        go_wp2_with fail
        refine HC.out.mono ?_
        rintro e w2 ⟨rfl, hb2⟩
        have HB2 := Lib.hid (hbr.trans (hb2.mono hbr.size)); clear hb2
        go_wp2_with fail
        go_roundw
        case rel => exact ⟨i + 1, by omega, rfl, by go_num, HN.out, HB2.out⟩
        case measure => simp [intOf]; omega
    · obtain rfl : i = 3 := by omega
      have hR : R - 1 = -1 := by
        rw [HW.out]
        have h0 := HA.out
        rw [if_neg (show ¬ x = clsS 1 from fun h => h0 0 (by omega) h.symm), if_neg (show ¬ x = clsS 2 from fun h => h0 1 (by omega) h.symm), if_neg (show ¬ x = clsS 3 from fun h => h0 2 (by omega) h.symm)]; rfl
      have HRR := Lib.hid hR
      clear hR hlt
      go_wp2_with fail
      go_ret
      exact ⟨by rw [HRR.out]; rfl, hbr⟩
end Go.Proofs.YtpnkgldpmalklaaDoor
