/- slices.Reverse of a row of sorted.entry[int,string] that the call owns. -/
import Derived.Test.YtpnkgldpmalklaaSrtFindIS
import Derived.RegionTactic
import Derived.BigRegion
set_option linter.unusedVariables false
set_option linter.unusedSimpArgs false
namespace Go.Proofs.Ytpnkgldpmalklaa
open Go Go.RowKit
open Sw
set_option maxRecDepth 100000 in
set_option maxHeartbeats 4000000 in
theorem slReverseIS_any (w : World) (base : Nat) (v : Value) (n : Nat) (l : List (Int × ByteArray)) (hl : l.length = n) (hn : n ≤ 1000000) (hown : w.ownsRow base 100 2 v n (l.flatMap eCIS)) :
    Calls Try.prog 57 #[v] w fun e w' => e = .returned (.tuple #[]) ∧ w'.ownsRow base 100 2 v n (l.reverse.flatMap eCIS) ∧ w.grownBy w' v.ownBlock := by
  have HO := Lib.hid hown
  have HL := Lib.hid hl; clear hl
  obtain ⟨A, c, rfl, hc1, hc2, _⟩ := SlV_of_any hown
  clear hown
  go_enter Try.func57, Try.ntmps57
  go_wp2_with fail
  go_loopw [2, 3] (fun iv jv wr => ∃ i : Nat, iv = .int .i64 i ∧ jv = .int .i64 ((n : Int) - 1 - i) ∧ 2 * i ≤ n + 1 ∧ wr.ownsRow base 100 2 (.slice A n c) n ((rvL i l).flatMap eCIS) ∧ w.grownBy wr (Value.slice A n c).ownBlock) (fun iv jv _ => (intOf jv - intOf iv + 1).toNat)
  case atStart => exact ⟨0, rfl, by simp, by omega, by rw [rvL_zero]; exact HO.out, grown_refl _ _⟩
  case round =>
    obtain ⟨i, rfl, rfl, hin, ho, hg⟩ := hrel
    have hrl := rvL_len i l
    have HR := Lib.hid (And.intro ho hg); clear ho hg
    by_cases hlt : (i : Int) < (n : Int) - 1 - i
    · obtain ⟨j, hj⟩ : ∃ j : Nat, (n : Int) - 1 - i = j := ⟨n - 1 - i, by omega⟩
      have hji : i < j := by omega
      have hjn : j < n := by omega
      have hjx : j = n - 1 - i := by omega
      obtain ⟨g, cap, cur, hA, hbg, hB, hnc, hcm, hcs, htk⟩ := own_form HR.out.1 (by omega)
      obtain ⟨rfl, rfl⟩ : A = some ⟨g, 0, none⟩ ∧ c = cap := by injection hA with e1 e2 e3; exact ⟨e1, e3⟩
      have hcell := fun (m : Nat) (hm : m < n) (q : Nat) (hq : q < 2) => (by
        have hm' : m < (rvL i l).length := by rw [hrl, HL.out]; exact hm
        have h1 := flat_get eCIS_len (rvL i l) m hm' q hq
        have h2 : m * 2 + q < n * 2 := by have : (m + 1) * 2 ≤ n * 2 := Nat.mul_le_mul_right _ hm; omega
        rw [hB.cell, ← Array.getElem?_toList, ← h1, ← htk, List.getElem?_take, if_pos h2] : wr.cell? ⟨g, m * 2 + q, none⟩ = (eCIS ((rvL i l)[m]'(by rw [hrl, HL.out]; exact hm)))[q]?)
      have hjl : j < (rvL i l).length := by rw [hrl, HL.out]; exact hjn
      have hil : i < (rvL i l).length := by rw [hrl, HL.out]; omega
      have hstep : rvL (i + 1) l = ((rvL i l).set i (rvL i l)[j]).set j (rvL i l)[i] := by
        have := rvL_step i l (by have := HL.out; omega)
        have hx : l.length - 1 - i = j := by have := HL.out; omega
        simp only [hx] at this
        exact this
      obtain ⟨x, hx⟩ : ∃ x, (rvL i l)[i] = x := ⟨_, rfl⟩
      obtain ⟨y, hy⟩ : ∃ y, (rvL i l)[j] = y := ⟨_, rfl⟩
      have hci := hcell i (by omega)
      have hcj := hcell j hjn
      simp only [hx] at hci
      simp only [hy] at hcj
      rw [hx, hy] at hstep
      have a0 : wr.cell? ⟨g, i * 2, none⟩ = _ := hci 0 (by omega)
      have a1 : wr.cell? ⟨g, i * 2 + 1, none⟩ = _ := hci 1 (by omega)
      simp only [eCIS, List.getElem?_cons_succ, List.getElem?_cons_zero] at a0 a1
      have b0 : wr.cell? ⟨g, j * 2, none⟩ = _ := hcj 0 (by omega)
      have b1 : wr.cell? ⟨g, j * 2 + 1, none⟩ = _ := hcj 1 (by omega)
      simp only [eCIS, List.getElem?_cons_succ, List.getElem?_cons_zero] at b0 b1
      have fa0 := hB.frozen (i * 2)
      have fa1 := hB.frozen (i * 2 + 1)
      have fb0 := hB.frozen (j * 2)
      have fb1 := hB.frozen (j * 2 + 1)
      have HST := Lib.hid (by
        have h1 := own_setCells (eCIS y) (i * 2) wr _ HR.out.1 (by rw [eCIS_len]; omega)
        have f1 := flat_put eCIS_len (rvL i l) i hil y 0 (eCIS y) (by rw [eCIS_len]; omega) (by simp [eCIS_len])
        simp only [Nat.add_zero] at f1
        rw [f1] at h1
        have h2 := own_setCells (eCIS x) (j * 2) _ _ h1 (by rw [eCIS_len]; omega)
        have f2 := flat_put eCIS_len ((rvL i l).set i y) j (by rw [List.length_set]; exact hjl) x 0 (eCIS x) (by rw [eCIS_len]; omega) (by simp [eCIS_len])
        simp only [Nat.add_zero] at f2
        rw [f2, ← hstep] at h2
        exact And.intro h2 (grown_setCells (eCIS x) (j * 2) _ (grown_setCells (eCIS y) (i * 2) wr HR.out.2)))
      clear hcell hci hcj hstep hx hy hB htk hcs
      rw [hj]
      have q1 : (j : Int) < n := by omega
      have q2 : (i : Int) < n := by omega
      have q3 : (i : Int) < j := by omega
      have q4 : i < j := hji
      have HJ := Lib.hid hj; clear hj hjx
      go_wp2_with fail
      go_region
      all_goals
        go_wp2_with fail
        go_roundw
        case rel => exact ⟨i + 1, by go_num, by have := HJ.out; go_num, by omega, own_drew HST.out.1, grown_drew HST.out.2⟩
        case measure => simp [intOf]; omega
    · have hF : rvL i l = l.reverse := rvL_end i l (by have := HL.out; omega)
      rw [hF] at HR
      go_wp2_with fail
      go_end0
      exact ⟨rfl, HR.out.1, HR.out.2⟩
end Go.Proofs.Ytpnkgldpmalklaa
