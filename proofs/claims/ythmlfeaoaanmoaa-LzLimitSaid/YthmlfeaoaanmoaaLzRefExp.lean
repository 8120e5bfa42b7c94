/- The contract of the reference's Expand. -/
import Derived.Test.YthmlfeaoaanmoaaLzExpand
set_option linter.unusedVariables false
set_option linter.unusedSimpArgs false
namespace Go.Proofs.Ythmlfeaoaanmoaa
open Go.RowKit
open Sw
theorem str_app (S : ByteArray) (b : UInt8) : (S ++ (⟨#[b]⟩ : ByteArray)).data.toList = S.data.toList ++ [b] := by
  rw [ByteArray.data_append]; simp
theorem str_copy (S : ByteArray) (k : Nat) (h1 : 1 ≤ k) (h2 : k ≤ S.size) : (S ++ S.extract (S.size - k) (S.size - k + 1)).data.toList = S.data.toList ++ [S.data.toList.getD (S.data.toList.length - k) 0] := by
  rw [ByteArray.data_append, ByteArray.data_extract]
  have hs : S.data.toList.length = S.size := by simp
  have hlt : S.size - k < S.data.toList.length := by omega
  rw [hs]
  simp only [Array.toList_append, Array.toList_extract]
  congr 1
  rw [List.getD_eq_getElem?_getD, List.getElem?_eq_getElem hlt]
  rw [List.extract_eq_take_drop, show S.size - k + 1 - (S.size - k) = 1 by omega, List.drop_eq_getElem_cons hlt]
  rfl
set_option maxRecDepth 100000 in
set_option maxHeartbeats 8000000 in
theorem refExpand_any (w : World) (A : Option Addr) (n c : Nat) (l : List Tk) (hl : l.length = n) (hn : n ≤ maxLen) (hsl : SlOf w 3 tkC A l) (hin : ∀ t ∈ l, TkIn t) :
    Calls Try.prog 44 #[.slice A n c] w (ExpPost l w) := by
  unfold maxLen at hn
  have hbad : expT l [] = none → ∀ w', Below w.heap.size w w' → ExpPost l w (.returned (.tuple #[.string ⟨#[]⟩, .bool false])) w' := fun h w' hb => ⟨hb, by rw [h]⟩
  have hgood : ∀ S : ByteArray, expT l [] = some S.data.toList → ∀ w', Below w.heap.size w w' → ExpPost l w (.returned (.tuple #[.string S, .bool true])) w' := fun S h w' hb => ⟨hb, by rw [h]⟩
  have HBAD := Lib.hid hbad; clear hbad
  have HGOOD := Lib.hid hgood; clear hgood
  have HS := Lib.hid hsl; clear hsl
  have HL := Lib.hid hl; clear hl
  have HIN := Lib.hid hin; clear hin
  go_enter Try.func44, Try.ntmps44
  go_wp2_with fail
  go_loopw [2, 3, 4, 11] (fun st ok o t wr => ∃ (k : Nat) (S : ByteArray), k ≤ n ∧ t = .int .i64 k ∧ st = .string ⟨#[]⟩ ∧ ok = .bool false ∧ o = .string S ∧ expT (l.drop k) S.data.toList = expT l [] ∧ S.size ≤ 65000 ∧ Below w.heap.size w wr) (fun _ _ _ t _ => n - (intOf t).toNat)
  case atStart => exact ⟨0, ⟨#[]⟩, Nat.zero_le _, rfl, rfl, rfl, rfl, rfl, by decide, Below.refl _ _⟩
  case round =>
    obtain ⟨k, S, hk, rfl, rfl, rfl, rfl, hex, hlen, hbw⟩ := hrel
    by_cases hlt : k < n
    · have hkl : k < l.length := by have := HL.out; omega
      obtain ⟨b, off, rfl, hbb, hcs⟩ := HS.out (by omega)
      have h0 := hcs k hkl 0 (by omega)
      have h1 := hcs k hkl 1 (by omega)
      have h2 := hcs k hkl 2 (by omega)
      rw [← hbw.cell (p := ⟨b, _, none⟩) hbb] at h0 h1 h2
      simp [tkC] at h0 h1 h2
      rw [List.drop_eq_getElem_cons hkl, expT] at hex
      have hnb : b ≠ wr.heap.size := by have := hbw.size; omega
      have htin := HIN.out l[k] (List.getElem_mem hkl)
      have hbv := byteV l[k] htin
      have hx0 : 0 ≤ l[k].byte ∧ l[k].byte < 256 := htin
      have hbt : byteT l[k] = UInt8.ofNat l[k].byte.toNat := rfl
      clear hcs
      have hsz : S.data.toList.length = S.size := by simp
      have hslen := fun (h : fitsT l[k] S.data.toList.length = true) => stepTk_len h
      have hstp : stepTk l[k] S.data.toList = if l[k].long = 0 then S.data.toList ++ [byteT l[k]] else copyN S.data.toList l[k].back.toNat l[k].long.toNat := rfl
      have hfd : fitsT l[k] S.data.toList.length = decide (if l[k].long = 0 then l[k].back = 0 ∧ (S.data.toList.length : Int) < 65000 else l[k].byte = 0 ∧ 3 ≤ l[k].long ∧ l[k].long ≤ 258 ∧ 1 ≤ l[k].back ∧ l[k].back ≤ 32768 ∧ l[k].back ≤ S.data.toList.length ∧ l[k].long ≤ 65000 - S.data.toList.length) := rfl
      clear htin
      generalize stepTk l[k] S.data.toList = nxt at *
      generalize byteT l[k] = bt at *
      rw [hsz] at hfd hex hslen
      generalize fitsT l[k] (S.size : Int) = fi at *
      generalize l[k].byte = x at *
      generalize l[k].long = y at *
      generalize l[k].back = z at *
      obtain ⟨hx0, hx1⟩ := hx0
      have HEX := Lib.hid hex; clear hex
      have HBV := Lib.hid hbv; clear hbv
      have HBT := Lib.hid hbt; clear hbt
      have HSL := Lib.hid hslen; clear hslen
      have HST := Lib.hid hstp; clear hstp
      have HFD := Lib.hid hfd; clear hfd
      have HSZ := Lib.hid hsz; clear hsz
      have hnone : fi = false → ∀ w', Below w.heap.size w w' → ExpPost l w (.returned (.tuple #[.string ⟨#[]⟩, .bool false])) w' := fun hf w' hb => HBAD.out (by have h := HEX.out; rw [if_neg (by rw [hf]; simp)] at h; exact h.symm) w' hb
      have HNO := Lib.hid hnone; clear hnone
      have hbw1 : Below w.heap.size w (wr.alloc (Obj.cells #[.int .u8 x, .int .i64 y, .int .i64 z] 80)) := hbw.alloc hbw.size _
      by_cases hy : y = 0
      · have hyb : (y == 0) = true := by rw [beq_iff_eq]; exact hy
        by_cases hz : z = 0
        · have hzb : (z != 0) = false := by rw [bne_eq_false_iff_eq]; exact hz
          by_cases hL : S.size < 65000
          · have hLb : ¬ (65000 : Int) ≤ S.size := by omega
            have hfi : fi = true := by rw [HFD.out]; apply decide_eq_true; rw [if_pos hy]; omega
            have hex2 : expT (l.drop (k + 1)) nxt = expT l [] := by have h := HEX.out; rw [if_pos hfi] at h; exact h
            have hnx : nxt = (S ++ (⟨#[UInt8.ofNat x.toNat]⟩ : ByteArray)).data.toList := by rw [HST.out, if_pos hy, str_app, HBT.out]
            have hl2 : (S ++ (⟨#[UInt8.ofNat x.toNat]⟩ : ByteArray)).size ≤ 65000 := by rw [ByteArray.size_append]; show S.size + 1 ≤ 65000; omega
            have HEX2 := Lib.hid hex2; clear hex2
            have HNX := Lib.hid hnx; clear hnx
            have HL2 := Lib.hid hl2; clear hl2
            have hcv := conv_one (P := Try.prog) 76 9 5 Try.underlying76 Try.underlying5 Try.underlying9 (wr.alloc (Obj.cells #[.int .u8 x, .int .i64 y, .int .i64 z] 80)) x hx0 hx1
            rw [World.size_alloc] at hcv
            clear hy hz hfi hL
            go_wp2_with fail
            go_roundw
            case rel => exact ⟨k + 1, _, by omega, by go_num, rfl, rfl, rfl, by rw [← HNX.out]; exact HEX2.out, HL2.out, hbw1.alloc hbw1.size _⟩
            case measure => simp [intOf]; omega
          · have hfi : fi = false := by rw [HFD.out]; apply decide_eq_false; rw [if_pos hy]; omega
            have hLb : (65000 : Int) ≤ S.size := by omega
            have HFIN := Lib.hid (HNO.out hfi _ hbw1)
            clear hy hz hfi hL
            go_wp2_with fail
            go_ret2
            exact HFIN.out
        · have hzb : (z != 0) = true := by rw [bne_iff_ne]; exact hz
          have hfi : fi = false := by rw [HFD.out]; apply decide_eq_false; rw [if_pos hy]; omega
          have HFIN := Lib.hid (HNO.out hfi _ hbw1)
          clear hy hz hfi
          go_wp2_with fail
          go_ret2
          exact HFIN.out
      · have hyb : (y == 0) = false := by rw [beq_eq_false_iff_ne]; exact hy
        by_cases p0 : x = 0
        · have f0 : (x != 0) = false := by rw [bne_eq_false_iff_eq]; exact p0
          by_cases p1 : ¬ y < 3
          · skip
            by_cases p2 : ¬ 258 < y
            · skip
              by_cases p3 : ¬ z < 1
              · skip
                by_cases p4 : ¬ 32768 < z
                · skip
                  by_cases p5 : ¬ (S.size : Int) < z
                  · skip
                    by_cases p6 : ¬ 65000 < y + S.size
                    · skip
                      have hfi : fi = true := by rw [HFD.out]; apply decide_eq_true; rw [if_neg hy]; omega
                      have hex2 : expT (l.drop (k + 1)) nxt = expT l [] := by have h := HEX.out; rw [if_pos hfi] at h; exact h
                      have hnx : nxt = copyN S.data.toList z.toNat y.toNat := by rw [HST.out, if_neg hy]
                      obtain ⟨N, hN⟩ := Int.eq_ofNat_of_zero_le (show 0 ≤ y by omega)
                      obtain ⟨K, hK⟩ := Int.eq_ofNat_of_zero_le (show 0 ≤ z by omega)
                      subst hN hK
                      simp only [Int.toNat_natCast] at hnx
                      have HEX2 := Lib.hid hex2; clear hex2
                      have HNX := Lib.hid hnx; clear hnx
                      have hN1 : N ≤ 258 := by omega
                      have hN2 : S.size + N ≤ 65000 := by omega
                      have hK1 : 1 ≤ K := by omega
                      have hK2 : K ≤ S.size := by omega
                      have hT : Blk (wr.alloc (Obj.cells #[.int .u8 x, .int .i64 N, .int .i64 K] 80)) wr.heap.size 80 #[.int .u8 x, .int .i64 N, .int .i64 K] := Blk.new _ _ _
                      have t2 := hT.cell 2
                      simp at t2
                      clear hfi hy p0 HST HFD HEX HSL HNO
                      go_wp2_with fail
                      go_loopw [4, 8] (fun o t wr2 => ∃ (i : Nat) (T : ByteArray), i ≤ N ∧ t = .int .i64 i ∧ o = .string T ∧ T.data.toList = copyN S.data.toList K i ∧ T.size = S.size + i ∧ wr2 = wr.alloc (Obj.cells #[.int .u8 x, .int .i64 N, .int .i64 K] 80)) (fun _ t _ => N - (intOf t).toNat)
                      case atStart => exact ⟨0, S, Nat.zero_le _, rfl, rfl, rfl, by omega, rfl⟩
                      case round =>
                        obtain ⟨i, T, hi, rfl, rfl, hT2, hTs, rfl⟩ := hrel
                        by_cases hin : i < N
                        · have hcp := str_copy T K hK1 (by omega)
                          have hT3 : (T ++ T.extract (T.size - K) (T.size - K + 1)).data.toList = copyN S.data.toList K (i + 1) := by rw [hcp, hT2]; rfl
                          have hTs3 : (T ++ T.extract (T.size - K) (T.size - K + 1)).size = S.size + (i + 1) := by
                            rw [ByteArray.size_append, ByteArray.size_extract]; omega
                          have HT3 := Lib.hid hT3; clear hT3 hcp
                          have HTS3 := Lib.hid hTs3; clear hTs3
                          have HT2 := Lib.hid hT2; clear hT2
                          have hT65 : T.size ≤ 65000 := by omega
                          have hKT : K ≤ T.size := by omega
                          obtain ⟨q, hq⟩ : ∃ q : Nat, q = T.size - K := ⟨_, rfl⟩
                          rw [← hq] at HT3 HTS3
                          have hqi : (T.size : Int) - K = q := by omega
                          have hq1 : q < T.size := by omega
                          have HQ := Lib.hid hq; clear hq
                          have HTS := Lib.hid hTs; clear hTs
                          go_wp2_with fail
                          go_roundw
                          case rel => exact ⟨i + 1, _, by omega, by go_num, rfl, HT3.out, HTS3.out, by first | rfl | trivial⟩
                          case measure => simp [intOf]; omega
                        · obtain rfl : i = N := by omega
                          have hl2 : T.size ≤ 65000 := by omega
                          have HT2 := Lib.hid hT2; clear hT2
                          have HTS := Lib.hid hTs; clear hTs
                          go_wp2_with fail
                          go_roundw
                          case rel => exact ⟨k + 1, T, by omega, by go_num, rfl, rfl, rfl, by rw [HT2.out, ← HNX.out]; exact HEX2.out, hl2, hbw1⟩
                          case measure => simp [intOf]; omega
                    · have r6 := Decidable.not_not.1 p6
                      have hfi : fi = false := by rw [HFD.out]; apply decide_eq_false; rw [if_neg hy]; omega
                      have HFIN := Lib.hid (HNO.out hfi _ hbw1)
                      clear hfi hy p0
                      go_wp2_with fail
                      go_ret2
                      exact HFIN.out
                  · have r5 := Decidable.not_not.1 p5
                    have hfi : fi = false := by rw [HFD.out]; apply decide_eq_false; rw [if_neg hy]; omega
                    have HFIN := Lib.hid (HNO.out hfi _ hbw1)
                    clear hfi hy p0
                    go_wp2_with fail
                    go_ret2
                    exact HFIN.out
                · have r4 := Decidable.not_not.1 p4
                  have hfi : fi = false := by rw [HFD.out]; apply decide_eq_false; rw [if_neg hy]; omega
                  have HFIN := Lib.hid (HNO.out hfi _ hbw1)
                  clear hfi hy p0
                  go_wp2_with fail
                  go_ret2
                  exact HFIN.out
              · have r3 := Decidable.not_not.1 p3
                have hfi : fi = false := by rw [HFD.out]; apply decide_eq_false; rw [if_neg hy]; omega
                have HFIN := Lib.hid (HNO.out hfi _ hbw1)
                clear hfi hy p0
                go_wp2_with fail
                go_ret2
                exact HFIN.out
            · have r2 := Decidable.not_not.1 p2
              have hfi : fi = false := by rw [HFD.out]; apply decide_eq_false; rw [if_neg hy]; omega
              have HFIN := Lib.hid (HNO.out hfi _ hbw1)
              clear hfi hy p0
              go_wp2_with fail
              go_ret2
              exact HFIN.out
          · have r1 := Decidable.not_not.1 p1
            have hfi : fi = false := by rw [HFD.out]; apply decide_eq_false; rw [if_neg hy]; omega
            have HFIN := Lib.hid (HNO.out hfi _ hbw1)
            clear hfi hy p0
            go_wp2_with fail
            go_ret2
            exact HFIN.out
        · have f0 : (x != 0) = true := by rw [bne_iff_ne]; exact p0
          have hfi : fi = false := by rw [HFD.out]; apply decide_eq_false; rw [if_neg hy]; omega
          have HFIN := Lib.hid (HNO.out hfi _ hbw1)
          clear hfi hy p0
          go_wp2_with fail
          go_ret2
          exact HFIN.out
    · obtain rfl : k = n := by omega
      have hd : l.drop k = [] := List.drop_of_length_le (by have := HL.out; omega)
      rw [hd, expT] at hex
      have HFIN := Lib.hid (HGOOD.out S hex.symm wr hbw)
      clear hex hd HGOOD HBAD HS HL HIN
      go_wp2_with fail
      go_ret2
      exact HFIN.out
end Go.Proofs.Ythmlfeaoaanmoaa
