/- The contract of the reference's Before. -/
import Derived.Test.YtjglkbbhihlcgaaDoorNameOrdB
set_option linter.unusedVariables false
set_option linter.unusedSimpArgs false
namespace Go.Proofs.YtjglkbbhihlcgaaDoor
open Go Go.RowKit
open Sw
open Go.Lib (compareBytes)
set_option maxRecDepth 100000 in
set_option maxHeartbeats 4000000 in
theorem refBefore_any (w : World) (p q : ByteArray) (hp : p.size ≤ 100000) (hq : q.size ≤ 100000) :
    Calls Tryd.prog 35 #[.string p, .string q] w fun e w' => e = .returned (.bool (decide (ordS p q = -1))) ∧ Below w.heap.size w w' := by
  have HP := Lib.hid (refParts_any w p hp)
  have HQ := Lib.hid (fun W => refParts_any W q hq)
  have hpl := wt_len (partsS p)
  have hql := wt_len (partsS q)
  have hpw := partsS_wt p
  have hqw := partsS_wt q
  have ho : ordS p q = if (partsS p).length = 0 ∧ (partsS q).length = 0 then compareBytes p.data.toList q.data.toList else cL (partsS p) (partsS q) := rfl
  have hls := less_str p q
  generalize ordS p q = R at *
  generalize hl : partsS p = l at *
  generalize hm : partsS q = m at *
  clear hl hm
  have hat := fun k => cL_at k l m
  have hout := fun k => cL_out k l m
  have hout2 := fun k => cL_out2 k l m
  have htk : ∀ k, l.take k = m.take k → ∀ (k1 : k < l.length) (k2 : k < m.length), compareBytes l[k].data.toList m[k].data.toList = 0 → l.take (k + 1) = m.take (k + 1) := fun k h k1 k2 hc => by
    rw [List.take_succ_eq_append_getElem k1, List.take_succ_eq_append_getElem k2, h, dat_inj (cb_zero _ _ hc)]
  obtain ⟨N, hN⟩ : ∃ N, l.length = N := ⟨_, rfl⟩
  obtain ⟨M, hM⟩ : ∃ M, m.length = M := ⟨_, rfl⟩
  rw [hN] at ho hpl
  rw [hM] at ho hql
  rw [hN, hM] at hout hout2
  have HA := Lib.hid (And.intro hat (And.intro hout (And.intro hout2 htk))); clear hat hout hout2 htk
  have HL := Lib.hid (And.intro hN hM); clear hN hM
  have hN6 : N ≤ 1000000 := by omega
  have hM6 : M ≤ 1000000 := by omega
  clear hpl hql hpw hqw
  go_enter Tryd.func35, Tryd.ntmps35
  go_wp2_with fail
  refine HP.out.mono ?_
  rintro e w1 ⟨v1, rfl, ow1, hb1⟩
  obtain ⟨A1, c1, rfl, hc1, hm1, s1⟩ := SlV.of_own ow1 bE_len (by omega)
  go_wp2_with fail
  refine (HQ.out _).mono ?_
  rintro e w2 ⟨v2, rfl, ow2, hb2⟩
  obtain ⟨A2, c2, rfl, hc2, hm2, s2⟩ := SlV.of_own ow2 bE_len (by omega)
  have hbw := hb1.trans (hb2.mono hb1.size)
  have HS := Lib.hid (And.intro (s1.below hb2 (Nat.le_refl _)) s2)
  rw [HL.out.1] at hc1 ⊢
  rw [HL.out.2] at hc2 ⊢
  unfold maxLen at hm1 hm2
  clear s1 s2 ow1 ow2
  by_cases h0 : N = 0 ∧ M = 0
  · rw [if_pos h0] at ho
    obtain ⟨h1, h2⟩ := h0
    have n1 : ((N : Int) == 0) = true := by rw [beq_iff_eq]; omega
    have n2 : ((M : Int) == 0) = true := by rw [beq_iff_eq]; omega
    subst ho
    clear h1 h2
    go_wp2_with fail
    go_ret
    exact ⟨by rw [← hls]; first | done | rfl, hbw⟩
  · rw [if_neg h0] at ho
    rw [← ho] at HA
    clear ho hls
    have HR := Lib.hid h0; clear h0
    go_upto_region 2 with fail
    go_cut [19] from 11 to 19 (fun b wx => b = .bool false ∧ wx = w2)
    case first =>
      by_cases h1 : N = 0
      · have h2 : ¬ M = 0 := fun e => HR.out ⟨h1, e⟩
        have n1 : ((N : Int) == 0) = true := by rw [beq_iff_eq]; omega
        have n2 : ((M : Int) == 0) = false := by rw [beq_eq_false_iff_ne]; omega
        clear h1 h2
        go_wp2_with fail
        go_meet
        exact ⟨rfl, rfl⟩
      · have n1 : ((N : Int) == 0) = false := by rw [beq_eq_false_iff_ne]; omega
        clear h1
        go_wp2_with fail
        go_meet
        exact ⟨rfl, rfl⟩
    case rest =>
      obtain ⟨rfl, rfl⟩ := hcut
      go_wp2_with fail
      go_loopw [4, 7] (fun r iv wr => ∃ k n : Nat, k ≤ N ∧ k ≤ M ∧ r = .bool false ∧ iv = .int .i64 k ∧ l.take k = m.take k ∧ wr = wc.drewN n) (fun _ iv _ => N - (intOf iv).toNat)
      case atStart => exact ⟨0, 0, Nat.zero_le _, Nat.zero_le _, rfl, rfl, by simp, rfl⟩
      case round =>
        obtain ⟨k, n, hkN, hkM, rfl, rfl, htk, rfl⟩ := hrel
        have HT := Lib.hid htk; clear htk
        have bD : Below w.heap.size w (wc.drewN n) := below_drewN hbw n
        by_cases hlt : k < N
        · have i1 : (k : Int) < N := by omega
          have k1 : k < l.length := by have := HL.out; omega
          by_cases hlt2 : k < M
          · have i2 : (k : Int) < M := by omega
            have k2 : k < m.length := by have := HL.out; omega
            obtain ⟨b1, o1, rfl, _, q1⟩ := HS.out.1 (by omega)
            have g1 := q1 k k1 0 (by omega)
            obtain ⟨b2, o2, rfl, _, q2⟩ := HS.out.2 (by omega)
            have g2 := q2 k k2 0 (by omega)
            simp [bE] at g1 g2
            have HX := Lib.hid (HA.out.1 k HT.out k1 k2)
            have HY := Lib.hid (HA.out.2.2.2 k HT.out k1 k2)
            have he := eq_str l[k] m[k]
            have hls := less_str l[k] m[k]
            clear q1 q2
            generalize l[k] = x at *
            generalize m[k] = y at *
            generalize compareBytes x.data.toList y.data.toList = cc at *
            have i0 : (0 : Int) ≤ k := by omega
            by_cases hc0 : cc = 0
            · have HNX := Lib.hid (HY.out hc0)
              rw [decide_eq_true hc0] at he
              clear hls
              have HC0 := Lib.hid hc0; clear hc0
              go_wp2_with fail
              go_quiet (fail)
              go_wp2_with fail
              go_roundw
              case rel => exact ⟨k + 1, n + nq, by omega, by omega, rfl, by go_num, HNX.out, rfl⟩
              case measure => simp [intOf]; omega
            · have hR : R = cc := by have := HX.out; rw [if_neg hc0] at this; exact this
              subst hR
              rw [decide_eq_false hc0] at he
              have HLS := Lib.hid hls; clear hls hc0
              go_wp2_with fail
              go_quiet (fail)
              go_wp2_with fail
              go_quiet (fail)
              go_wp2_with fail
              go_ret
              exact ⟨by rw [← HLS.out]; first | done | rfl, below_drewN (below_drewN bD _) _⟩
          · obtain rfl : k = M := by omega
            have hR := HA.out.2.2.1 k HT.out rfl hlt
            subst hR
            have i2 : ¬ (N : Int) < k := by omega
            clear hlt hlt2
            go_wp2_with fail
            go_ret
            exact ⟨rfl, bD⟩
        · obtain rfl : k = N := by omega
          have hR := HA.out.2.1 k HT.out rfl
          clear hlt
          by_cases hkm : k < M
          · rw [if_pos hkm] at hR
            subst hR
            have i3 : (k : Int) < M := by omega
            go_wp2_with fail
            go_ret
            exact ⟨rfl, bD⟩
          · rw [if_neg hkm] at hR
            subst hR
            have i3 : ¬ (k : Int) < M := by omega
            go_wp2_with fail
            go_ret
            exact ⟨rfl, bD⟩
end Go.Proofs.YtjglkbbhihlcgaaDoor
