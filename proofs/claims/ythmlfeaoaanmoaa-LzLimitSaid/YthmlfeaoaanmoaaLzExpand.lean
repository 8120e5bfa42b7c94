/- The contract of lz.Expand. -/
import Derived.Test.YthmlfeaoaanmoaaLzExp
import Derived.Deep.CutBlock
set_option linter.unusedVariables false
set_option linter.unusedSimpArgs false
namespace Go.Proofs.Ythmlfeaoaanmoaa
open Go.RowKit
open Sw
theorem byteV (t : Tk) (h : TkIn t) : Value.int .u8 ((byteT t).toNat : Int) = .int .u8 t.byte := by
  unfold TkIn at h
  unfold byteT
  congr 1
  simp
  omega
set_option maxRecDepth 100000 in
set_option maxHeartbeats 8000000 in
theorem expand_any (w : World) (A : Option Addr) (n c : Nat) (l : List Tk) (hl : l.length = n) (hn : n ≤ maxLen) (hsl : SlOf w 3 tkC A l) (hin : ∀ t ∈ l, TkIn t) :
    Calls Try.prog 46 #[.slice A n c] w (ExpPost l w) := by
  unfold maxLen at hn
  have hbad : expT l [] = none → ∀ w', Below w.heap.size w w' → ExpPost l w (.returned (.tuple #[.string ⟨#[]⟩, .bool false])) w' := fun h w' hb => ⟨hb, by rw [h]⟩
  have hgood : ∀ out, expT l [] = some out → ∀ w', Below w.heap.size w w' → ExpPost l w (.returned (.tuple #[.string ⟨out.toArray⟩, .bool true])) w' := fun out h w' hb => ⟨hb, by rw [h]⟩
  have HBAD := Lib.hid hbad; clear hbad
  have HGOOD := Lib.hid hgood; clear hgood
  have HS := Lib.hid hsl; clear hsl
  have HL := Lib.hid hl; clear hl
  have HIN := Lib.hid hin; clear hin
  go_enter Try.func46, Try.ntmps46
  go_wp2_with fail
  go_loopw [2, 3, 4, 9] (fun st ok o t wr => ∃ (k : Nat) (out : List UInt8), k ≤ n ∧ t = .int .i64 k ∧ st = .string ⟨#[]⟩ ∧ ok = .bool false ∧ expT (l.drop k) out = expT l [] ∧ out.length ≤ 65000 ∧ wr.ownsRow w.heap.size 5 1 o out.length (bytesV out) ∧ Below w.heap.size w wr) (fun _ _ _ t _ => n - (intOf t).toNat)
  case atStart => exact ⟨0, [], Nat.zero_le _, rfl, rfl, rfl, rfl, by simp, ⟨rfl, .inl ⟨rfl, rfl⟩⟩, Below.refl _ _⟩
  case round =>
    obtain ⟨k, out, hk, rfl, rfl, rfl, hex, hlen, hown, hbw⟩ := hrel
    by_cases hlt : k < n
    · have hkl : k < l.length := by have := HL.out; omega
      obtain ⟨b, off, rfl, hbb, hcs⟩ := HS.out (by omega)
      have h0 := hcs k hkl 0 (by omega)
      have h1 := hcs k hkl 1 (by omega)
      have h2 := hcs k hkl 2 (by omega)
      rw [← hbw.cell (p := ⟨b, _, none⟩) hbb] at h0 h1 h2
      simp [tkC] at h0 h1 h2
      rw [List.drop_eq_getElem_cons hkl, expT] at hex
      have hnb : b ≠ wr.heap.size := by have := hbw.size; omega
      have htin := HIN.out l[k] (List.getElem_mem hkl)
      have hbv := byteV l[k] htin
      clear hcs
      obtain ⟨A2, c2, rfl, hc2, hcm2, hs2⟩ := SlV.of_own (E := byE) (l := out) (size := 1) (by rw [← bytesV_flat]; exact hown) (fun _ => rfl) (by omega)
      have hfit := fun W => fits_any W l[k].byte l[k].long l[k].back out.length (by omega) (by omega)
      have hslen := fun (h : fitsT l[k] out.length = true) => stepTk_len h
      have hstp : stepTk l[k] out = if l[k].long = 0 then out ++ [byteT l[k]] else copyN out l[k].back.toNat l[k].long.toNat := rfl
      have hff : fitsT ⟨l[k].byte, l[k].long, l[k].back⟩ (out.length : Int) = fitsT l[k] out.length := rfl
      have hfd : fitsT l[k] out.length = decide (if l[k].long = 0 then l[k].back = 0 ∧ (out.length : Int) < 65000 else l[k].byte = 0 ∧ 3 ≤ l[k].long ∧ l[k].long ≤ 258 ∧ 1 ≤ l[k].back ∧ l[k].back ≤ 32768 ∧ l[k].back ≤ out.length ∧ l[k].long ≤ 65000 - out.length) := rfl
      rw [hff] at hfit
      clear hff htin
      generalize stepTk l[k] out = nxt at *
      generalize byteT l[k] = bt at *
      generalize fitsT l[k] out.length = fi at *
      generalize l[k].byte = x at *
      generalize l[k].long = y at *
      generalize l[k].back = z at *
      have HEX := Lib.hid hex; clear hex
      have HFIT := Lib.hid hfit; clear hfit
      have HBV := Lib.hid hbv; clear hbv
      have HSL := Lib.hid hslen; clear hslen
      have HST := Lib.hid hstp; clear hstp
      have HFD := Lib.hid hfd; clear hfd
      have HOWN := Lib.hid hown; clear hown
      have HS2 := Lib.hid hs2; clear hs2
      unfold maxLen at hcm2
      go_wp2_with fail
      refine (HFIT.out _).mono ?_
      have hTK : Blk (wr.alloc (Obj.cells #[.int .u8 x, .int .i64 y, .int .i64 z] 80)) wr.heap.size 80 #[.int .u8 x, .int .i64 y, .int .i64 z] := Blk.new _ _ _
      have hbw1 : Below w.heap.size w (wr.alloc (Obj.cells #[.int .u8 x, .int .i64 y, .int .i64 z] 80)) := hbw.alloc hbw.size _
      have hbr1 : Below wr.heap.size wr (wr.alloc (Obj.cells #[.int .u8 x, .int .i64 y, .int .i64 z] 80)) := (Below.refl _ _).alloc (Nat.le_refl _) _
      cases fi with
      | false =>
        rintro e w1 ⟨rfl, hb1⟩
        have hnone : expT l [] = none := by have h := HEX.out; rw [if_neg (by simp)] at h; exact h.symm
        have HFIN := Lib.hid (HBAD.out hnone w1 (hbw1.trans (hb1.mono hbw1.size)))
        go_wp2_with fail
        go_ret2
        exact HFIN.out
      | true =>
        rintro e w1 ⟨rfl, hb1⟩
        have hTK1 := hTK.below hb1 hTK.lt
        have hbw2 := hbw1.trans (hb1.mono hbw1.size)
        have hbr2 : Below wr.heap.size wr w1 := hbr1.trans (hb1.mono hbr1.size)
        have HO1 := Lib.hid (own_kept HOWN.out hbr2)
        have HS3 := Lib.hid (HS2.out.below hbr2 (Nat.le_refl _))
        have d0 := hTK1.cell 0
        have d1 := hTK1.cell 1
        have d2 := hTK1.cell 2
        simp at d0 d1 d2
        have hlen2 := (HSL.out rfl).1
        have hex2 : expT (l.drop (k + 1)) nxt = expT l [] := by have h := HEX.out; rw [if_pos rfl] at h; exact h
        have HEX2 := Lib.hid hex2; clear hex2 HEX
        have hok := of_decide_eq_true HFD.out.symm
        have HTK := Lib.hid hTK1; clear hTK1 hTK
        clear hbw1 hbr1 h0 h1 h2
        by_cases hy : y = 0
        · rw [if_pos hy] at hok
          have hnx : nxt = out ++ [bt] := by rw [HST.out, if_pos hy]
          have HNX := Lib.hid hnx; clear hnx
          have hyb : (y == 0) = true := by rw [beq_iff_eq]; exact hy
          have hl6 : out.length + 1 ≤ 1000000 := by omega
          have HOK := Lib.hid hok; clear hok
          subst hy
          go_wp2_with (refine wpList_app rfl _ _ 76 rfl w.heap.size 5 (.int .u8 0) 1 1 Try.underlying76 info_byte rfl (by omega) (.slice A2 out.length c2) out.length (bytesV out) (by simp [Act.eval, Act.put]) (own_kept HO1.out ((Below.refl _ _).alloc (Nat.le_refl _) _)) w1.heap.size 1 _ _ (by simp [Act.eval, Act.put]) (Blk.new _ _ _) rfl (by simp [Value.oneCell']) hl6 (by omega) (by have := hbw2.size; simp; omega) _ rfl ?_; intro g2 cap2 w5 ho2 hg2 hat2 hlt2; have hT5 := (HTK.out.alloc (Obj.cells #[.int .u8 x] 5)).grown hg2 (fun h => own_ne HOWN.out wr.heap.size (Nat.le_refl _) h.symm); have t1 := hT5.cell 1; simp at t1; have hw5 : Below w.heap.size w w5 := own_below HO1.out (hbw2.alloc hbw2.size (Obj.cells #[.int .u8 x] 5)) hg2 (Nat.le_refl _) (by have := hbw2.size; simp; omega))
          go_loopw [4, 28] (fun o t wr2 => o = .slice (some ⟨g2, 0, none⟩) (out.length + 1) cap2 ∧ t = .int .i64 0 ∧ wr2 = w5) (fun _ _ _ => 1)
          case atStart => exact ⟨rfl, rfl, rfl⟩
          case round =>
            obtain ⟨rfl, rfl, rfl⟩ := hrel
            go_wp2_with fail
            go_roundw
            case rel =>
              refine ⟨k + 1, nxt, by omega, by go_num, rfl, rfl, HEX2.out, hlen2, ?_, hw5⟩
              rw [HNX.out, List.length_append, bytesV_append]
              have : bytesV [bt] = [.int .u8 x] := by unfold bytesV; rw [List.map_singleton, HBV.out]
              rw [this]
              exact ho2
            case measure => simp [intOf]; omega
        · rw [if_neg hy] at hok
          have hnx : nxt = copyN out z.toNat y.toNat := by rw [HST.out, if_neg hy]
          have hyb : (y == 0) = false := by rw [beq_eq_false_iff_ne]; exact hy
          obtain ⟨N, hN⟩ := Int.eq_ofNat_of_zero_le (show 0 ≤ y by omega)
          obtain ⟨K, hK⟩ := Int.eq_ofNat_of_zero_le (show 0 ≤ z by omega)
          subst hN hK
          simp only [Int.toNat_natCast] at hnx
          have HNX := Lib.hid hnx; clear hnx
          have hN1 : N ≤ 258 := by omega
          have hN2 : out.length + N ≤ 65000 := by omega
          have hK1 : 1 ≤ K := by omega
          have hK2 : K ≤ out.length := by omega
          clear hok hy
          have hng := own_ne HOWN.out wr.heap.size (Nat.le_refl _)
          clear HOWN HS2 HFIT HFD HST hb1 hbr2 HSL hnb
          generalize wr.heap.size = g at *
          go_wp2_with fail
          go_loopw [4, 28] (fun o t wr2 => ∃ i : Nat, i ≤ N ∧ t = .int .i64 i ∧ wr2.ownsRow w.heap.size 5 1 o (copyN out K i).length (bytesV (copyN out K i)) ∧ Blk wr2 g 80 #[.int .u8 x, .int .i64 N, .int .i64 K] ∧ o.ownBlock ≠ some g ∧ Below w.heap.size w wr2) (fun _ t _ => N - (intOf t).toNat)
          case atStart => exact ⟨0, Nat.zero_le _, rfl, HO1.out, HTK.out, hng, hbw2⟩
          case round =>
            obtain ⟨i, hi, rfl, ho, hT, hne, hb5⟩ := hrel
            have hcl := copyN_len out K i
            by_cases hin : i < N
            · obtain ⟨A5, c5, rfl, hc5, hcm5, hs5⟩ := SlV.of_own (E := byE) (l := copyN out K i) (size := 1) (by rw [← bytesV_flat]; exact ho) (fun _ => rfl) (by omega)
              have hcs : copyN out K (i + 1) = copyN out K i ++ [(copyN out K i).getD ((copyN out K i).length - K) 0] := rfl
              have hbs : bytesV (copyN out K (i + 1)) = bytesV (copyN out K i) ++ [.int .u8 (((copyN out K i).getD ((copyN out K i).length - K) 0).toNat : Int)] := by rw [hcs, bytesV_append]; rfl
              have hcl2 := copyN_len out K (i + 1)
              have hle : (copyN out K (i + 1)).length = (copyN out K i).length + 1 := by omega
              generalize copyN out K i = cur at *
              obtain ⟨b5, off5, rfl, hbb5, hcs5⟩ := hs5 (by omega)
              have hce := hcs5 (cur.length - K) (by omega) 0 (by omega)
              have hgd : cur.getD (cur.length - K) 0 = cur[cur.length - K]'(by omega) := by simp [List.getD_eq_getElem?_getD, List.getElem?_eq_getElem (show cur.length - K < cur.length by omega)]
              simp [byE] at hce
              rw [hgd] at hbs
              generalize cur[cur.length - K]'(by omega) = y0 at *
              obtain ⟨q, hq⟩ : ∃ q : Nat, q = cur.length - K := ⟨_, rfl⟩
              rw [← hq] at hce
              have hqi : (cur.length : Int) - K = q := by omega
              have hq1 : q < cur.length := by omega
              have d2 := hT.cell 2
              simp at d2
              have hl6 : cur.length + 1 ≤ 1000000 := by omega
              have HBS := Lib.hid hbs; clear hbs hcs hgd hcs5
              have HO := Lib.hid ho; clear ho
              have HT := Lib.hid hT; clear hT
              have HLE := Lib.hid hle; clear hle hcl hcl2
              have HQ := Lib.hid hq; clear hq
              go_wp2_with (refine wpList_app rfl _ _ 76 rfl w.heap.size 5 (.int .u8 0) 1 1 Try.underlying76 info_byte rfl (by omega) (.slice (some ⟨b5, off5, none⟩) cur.length c5) cur.length (bytesV cur) (by simp [Act.eval, Act.put]) (own_kept HO.out ((Below.refl _ _).alloc (Nat.le_refl _) _)) wr.heap.size 1 _ _ (by simp [Act.eval, Act.put]) (Blk.new _ _ _) rfl (by simp [Value.oneCell']) hl6 (by omega) (by have := hb5.size; simp; omega) _ rfl ?_; intro g2 cap2 w5 ho2 hg2 hat2 hlt2)
              have hw5 : Below w.heap.size w w5 := own_below HO.out (hb5.alloc hb5.size (Obj.cells #[.int .u8 (y0.toNat : Int)] 5)) hg2 (Nat.le_refl _) (by have := hb5.size; simp; omega)
              have hT5 := (HT.out.alloc (Obj.cells #[.int .u8 (y0.toNat : Int)] 5)).grown hg2 (fun h => hne h.symm)
              have hglt := HT.out.lt
              go_roundw
              case rel =>
                refine ⟨i + 1, by omega, by go_num, ?_, hT5, ?_, hw5⟩
                · rw [HLE.out, HBS.out]; exact ho2
                · show some g2 ≠ some g
                  intro h
                  have hg2g : g2 = g := by injection h
                  rcases hat2 with h2 | h2
                  · exact hne (by rw [h2, hg2g])
                  · simp at h2; omega
              case measure => simp [intOf]; omega
            · obtain rfl : i = N := by omega
              have HO := Lib.hid ho; clear ho
              go_wp2_with fail
              go_roundw
              case rel =>
                refine ⟨k + 1, nxt, by omega, by go_num, rfl, rfl, HEX2.out, hlen2, ?_, hb5⟩
                rw [HNX.out]; exact HO.out
              case measure => simp [intOf]; omega
    · obtain rfl : k = n := by omega
      have hd : l.drop k = [] := List.drop_of_length_le (by have := HL.out; omega)
      rw [hd, expT] at hex
      have hcv := conv_own (P := Try.prog) 76 9 5 Try.underlying76 Try.underlying5 Try.underlying9 w.heap.size u4 out.length out hown
      have HFIN := Lib.hid (HGOOD.out out hex.symm wr hbw)
      clear hex hd hown HGOOD HBAD HS HL HIN
      go_wp2_with fail
      go_ret2
      exact HFIN.out
end Go.Proofs.Ythmlfeaoaanmoaa
