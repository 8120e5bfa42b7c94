/- Contracts of lz.Right and lz.Count. -/
import Derived.Test.YthmlfeaoaanmoaaLzExp
set_option linter.unusedVariables false
set_option linter.unusedSimpArgs false
namespace Sw
/-- how many tokens are bytes -/
def litN (l : List Tk) : Nat := (l.filter fun t => decide (t.long = 0)).length
theorem litN_le (l : List Tk) : litN l ≤ l.length := List.length_filter_le _ _
theorem litN_take (l : List Tk) (k : Nat) (h : k < l.length) : litN (l.take (k + 1)) = litN (l.take k) + if l[k].long = 0 then 1 else 0 := by
  unfold litN
  rw [List.take_succ_eq_append_getElem h, List.filter_append, List.length_append]
  congr 1
  by_cases hz : l[k].long = 0 <;> simp [hz]
end Sw
namespace Go.Proofs.Ythmlfeaoaanmoaa
open Go.RowKit
open Sw
set_option maxRecDepth 100000 in
set_option maxHeartbeats 4000000 in
theorem right_any (w : World) (A : Option Addr) (n c : Nat) (l : List Tk) (hl : l.length = n) (hn : n ≤ maxLen) (hsl : SlOf w 3 tkC A l) :
    Calls Try.prog 45 #[.slice A n c] w fun e w' => e = .returned (.bool (expT l []).isSome) ∧ Below w.heap.size w w' := by
  unfold maxLen at hn
  have HS := Lib.hid hsl; clear hsl
  have HL := Lib.hid hl; clear hl
  obtain ⟨ex, hexd⟩ : ∃ ex, ex = expT l [] := ⟨_, rfl⟩
  rw [← hexd]
  have HEXD := Lib.hid hexd; clear hexd
  go_enter Try.func45, Try.ntmps45
  go_wp2_with fail
  go_loopw [2, 3, 8] (fun b o t wr => ∃ (k : Nat) (out : List UInt8), k ≤ n ∧ t = .int .i64 k ∧ b = .bool false ∧ o = .int .i64 out.length ∧ expT (l.drop k) out = ex ∧ out.length ≤ 65000 ∧ Below w.heap.size w wr) (fun _ _ t _ => n - (intOf t).toNat)
  case atStart => exact ⟨0, [], Nat.zero_le _, rfl, rfl, rfl, HEXD.out.symm, by simp, Below.refl _ _⟩
  case round =>
    obtain ⟨k, out, hk, rfl, rfl, rfl, hex, hlen, hbw⟩ := hrel
    by_cases hlt : k < n
    · have hkl : k < l.length := by have := HL.out; omega
      obtain ⟨b, off, rfl, hbb, hcs⟩ := HS.out (by omega)
      have h0 := hcs k hkl 0 (by omega)
      have h1 := hcs k hkl 1 (by omega)
      have h2 := hcs k hkl 2 (by omega)
      rw [← hbw.cell (p := ⟨b, _, none⟩) hbb] at h0 h1 h2
      simp [tkC] at h0 h1 h2
      rw [List.drop_eq_getElem_cons hkl, expT] at hex
      have hnb : b ≠ wr.heap.size := by have := hbw.size; omega
      clear hcs
      have hfit := fun W => fits_any W l[k].byte l[k].long l[k].back out.length (by omega) (by omega)
      have hslen := fun (h : fitsT l[k] out.length = true) => stepTk_len h
      have hff : fitsT ⟨l[k].byte, l[k].long, l[k].back⟩ (out.length : Int) = fitsT l[k] out.length := rfl
      rw [hff] at hfit
      clear hff
      generalize stepTk l[k] out = nxt at *
      generalize fitsT l[k] out.length = fi at *
      generalize l[k].byte = x at *
      generalize l[k].long = y at *
      generalize l[k].back = z at *
      have HEX := Lib.hid hex; clear hex
      have HFIT := Lib.hid hfit; clear hfit
      have hTK : Blk (wr.alloc (Obj.cells #[.int .u8 x, .int .i64 y, .int .i64 z] 80)) wr.heap.size 80 #[.int .u8 x, .int .i64 y, .int .i64 z] := Blk.new _ _ _
      have hbw1 : Below w.heap.size w (wr.alloc (Obj.cells #[.int .u8 x, .int .i64 y, .int .i64 z] 80)) := hbw.alloc hbw.size _
      have HSL := Lib.hid hslen; clear hslen
      cases fi with
      | false =>
        have hnone : ex.isSome = false := by have h := HEX.out; rw [if_neg (by simp)] at h; rw [← h]; rfl
        have HN := Lib.hid hnone; clear hnone
        go_wp2_with fail
        refine (HFIT.out _).mono ?_
        rintro e w1 ⟨rfl, hb1⟩
        go_wp2_with fail
        go_ret
        exact ⟨by rw [HN.out]; first | done | rfl, hbw1.trans (hb1.mono hbw1.size)⟩
      | true =>
        have hex2 : expT (l.drop (k + 1)) nxt = ex := by have h := HEX.out; rw [if_pos rfl] at h; exact h
        have HEX2 := Lib.hid hex2; clear hex2
        obtain ⟨hl2, hl3⟩ := HSL.out rfl
        go_wp2_with fail
        refine (HFIT.out _).mono ?_
        rintro e w1 ⟨rfl, hb1⟩
        have d1 := (hTK.below hb1 hTK.lt).cell 1
        simp at d1
        have hbw2 := hbw1.trans (hb1.mono hbw1.size)
        obtain ⟨m, hm⟩ : ∃ m : Int, m = max y 1 := ⟨_, rfl⟩
        have hm0 : 0 ≤ m := by omega
        have hm1 : m ≤ 65000 := by omega
        have hms : (nxt.length : Int) = out.length + m := by omega
        have HMS := Lib.hid hms; clear hms hl3
        have hmx : max y 1 = m := hm.symm
        clear hm
        go_wp2_with fail
        go_roundw
        case rel => exact ⟨k + 1, nxt, by omega, by go_num, rfl, by rw [HMS.out], HEX2.out, hl2, hbw2⟩
        case measure => simp [intOf]; omega
    · obtain rfl : k = n := by omega
      have hd : l.drop k = [] := List.drop_of_length_le (by have := HL.out; omega)
      rw [hd, expT] at hex
      have hsome : ex.isSome = true := by rw [← hex]; rfl
      have HN := Lib.hid hsome; clear hsome hex hd
      go_wp2_with fail
      go_ret
      exact ⟨by rw [HN.out]; first | done | rfl, hbw⟩
set_option maxRecDepth 100000 in
set_option maxHeartbeats 4000000 in
theorem lzCount_any (w : World) (A : Option Addr) (n c : Nat) (l : List Tk) (hl : l.length = n) (hn : n ≤ maxLen) (hsl : SlOf w 3 tkC A l) :
    Calls Try.prog 47 #[.slice A n c] w fun e w' => e = .returned (.tuple #[.int .i64 (litN l : Nat), .int .i64 ((l.length : Int) - (litN l : Nat))]) ∧ Below w.heap.size w w' := by
  unfold maxLen at hn
  have HS := Lib.hid hsl; clear hsl
  have HL := Lib.hid hl; clear hl
  go_enter Try.func47, Try.ntmps47
  go_wp2_with fail
  go_loopw [2, 3, 8] (fun b o t wr => ∃ k q : Nat, k ≤ n ∧ t = .int .i64 k ∧ b = .int .i64 (litN (l.take k) : Nat) ∧ o = .int .i64 q ∧ q + litN (l.take k) = k ∧ Below w.heap.size w wr) (fun _ _ t _ => n - (intOf t).toNat)
  case atStart => exact ⟨0, 0, Nat.zero_le _, rfl, rfl, rfl, rfl, Below.refl _ _⟩
  case round =>
    obtain ⟨k, q, hk, rfl, rfl, rfl, hq, hbw⟩ := hrel
    by_cases hlt : k < n
    · have hkl : k < l.length := by have := HL.out; omega
      obtain ⟨b, off, rfl, hbb, hcs⟩ := HS.out (by omega)
      have h0 := hcs k hkl 0 (by omega)
      have h1 := hcs k hkl 1 (by omega)
      have h2 := hcs k hkl 2 (by omega)
      rw [← hbw.cell (p := ⟨b, _, none⟩) hbb] at h0 h1 h2
      simp [tkC] at h0 h1 h2
      have hnb : b ≠ wr.heap.size := by have := hbw.size; omega
      have hlt2 := litN_take l k hkl
      clear hcs
      have HLT := Lib.hid hlt2; clear hlt2
      generalize litN (l.take k) = a at *
      generalize l[k].byte = x at *
      generalize l[k].long = y at *
      generalize l[k].back = z at *
      by_cases hy : y = 0
      · have hyb : (y == 0) = true := by rw [beq_iff_eq]; exact hy
        have hl2 : litN (l.take (k + 1)) = a + 1 := by rw [HLT.out, if_pos hy]
        have HL2 := Lib.hid hl2; clear hl2 hy
        have HQ := Lib.hid hq; clear hq
        have ha : a ≤ k := by have := HQ.out; omega
        go_wp2_with fail
        go_roundw
        case rel => exact ⟨k + 1, q, by omega, by go_num, by rw [HL2.out]; go_num, rfl, by rw [HL2.out]; have := HQ.out; omega, hbw.alloc hbw.size _⟩
        case measure => simp [intOf]; omega
      · have hyb : (y == 0) = false := by rw [beq_eq_false_iff_ne]; exact hy
        have hl2 : litN (l.take (k + 1)) = a := by rw [HLT.out, if_neg hy]; rfl
        have HL2 := Lib.hid hl2; clear hl2 hy
        have HQ := Lib.hid hq; clear hq
        have hqk : q ≤ k := by have := HQ.out; omega
        go_wp2_with fail
        go_roundw
        case rel => exact ⟨k + 1, q + 1, by omega, by go_num, by rw [HL2.out], by go_num, by rw [HL2.out]; have := HQ.out; omega, hbw.alloc hbw.size _⟩
        case measure => simp [intOf]; omega
    · obtain rfl : k = n := by omega
      have ht : l.take k = l := List.take_of_length_le (by have := HL.out; omega)
      rw [ht] at hq ⊢
      have hqe : (q : Int) = (l.length : Int) - (litN l : Nat) := by have := HL.out; omega
      have HQ := Lib.hid hqe; clear hqe hq ht
      go_wp2_with fail
      go_ret2
      exact ⟨by rw [← HQ.out]; first | done | rfl, hbw⟩
end Go.Proofs.Ythmlfeaoaanmoaa
