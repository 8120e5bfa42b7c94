/- Several texts, joined for the limit of sixty files; each one opens with its own comment. -/
import Derived.Test.YthnnnlbdbkdcaaaGreatDoorJoin18
import Derived.Test.YthnnnlbdbkdcaaaGreatDoorJoin13
import Derived.Test.YthnnnlbdbkdcaaaGreatDoorJoin14
import Derived.Test.YthnnnlbdbkdcaaaGreatDoorJoin1
/- The main walk of DirfsBack. -/
set_option linter.unusedVariables false
set_option linter.unusedSimpArgs false
namespace Go.Proofs.YthnnnlbdbkdcaaaGreatDoor
open Go Go.RowKit
open Sw
set_option maxRecDepth 100000 in
set_option maxHeartbeats 16000000 in
theorem dirfsBack_main (w : World) (A : Option Addr) (n c : Nat) (l : List NE) (fr tt : ByteArray) (hl : l.length = n) (hnc : n ≤ c) (hcm : c ≤ maxLen) (hsl : SlOf w 5 eCSN A l) (hin : ∀ e ∈ l, NEIn e) (hfr : fr.size ≤ maxLen) (htt : tt.size ≤ maxLen) :
    Calls Tryz.prog 4 #[.slice A n c, .string fr, .string tt] w fun e w' => e = .returned (.bool true) ∧ Below w.heap.size w w' := by
  have hslv : SlV w 5 eCSN (.slice A n c) l := ⟨A, c, by rw [hl], by rw [hl]; exact hnc, hcm, hsl⟩
  unfold maxLen at hcm hfr htt
  have HLT := Lib.hid (light16_any w _ l hslv (fun e he => ⟨(hin e he).1, (hin e he).2.size⟩))
  have HLV := Lib.hid (fun W => lives18_any W)
  have HSV := Lib.hid hslv
  have HIN := Lib.hid (And.intro hl (And.intro hin hsl)); clear hslv hl hin hsl
  go_enter Tryz.func4, Tryz.ntmps4
  go_wp2_with fail
  refine HLT.out.mono ?_
  rintro e w1 ⟨R, rfl, hR, hb1⟩
  have HR := Lib.hid hR
  have HBB := Lib.hid hb1; clear hR hb1 HLT
  cases R with
  | false =>
    go_wp2_with fail
    refine (HLV.out _).mono ?_
    rintro e w9 ⟨rfl, hb9⟩
    have HZ := Lib.hid (HBB.out.trans (hb9.mono HBB.out.size)); clear hb9
    go_wp2_with fail
    go_ret
    exact ⟨rfl, HZ.out⟩
  | true =>
    obtain ⟨hl30, hsm⟩ := HR.out rfl
    have hn30 : n ≤ 30 := by rw [HIN.out.1] at hl30; exact hl30
    have HSM := Lib.hid hsm
    have HRI := Lib.hid (ref16Right_any w1 _ l (HSV.out.below HBB.out (Nat.le_refl _)) (by have := HIN.out.1; omega) (fun e he => ⟨by have := (hsm e he).1; omega, (HIN.out.2.1 e he).2⟩)); clear hl30 hsm HR
    go_wp2_with fail
    refine HRI.out.mono ?_
    rintro e w2 ⟨R2, rfl, hR2, hb2⟩
    have HB2 := Lib.hid (HBB.out.trans (hb2.mono HBB.out.size))
    have HR2 := Lib.hid hR2; clear hR2 hb2 HRI HBB
    have HBB := HB2; clear HB2
    cases R2 with
    | false =>
      go_wp2_with fail
      refine (HLV.out _).mono ?_
      rintro e w9 ⟨rfl, hb9⟩
      have HZ := Lib.hid (HBB.out.trans (hb9.mono HBB.out.size)); clear hb9
      go_wp2_with fail
      go_ret
      exact ⟨rfl, HZ.out⟩
    | true =>
      have hps := HR2.out.1 rfl
      have HTI := Lib.hid (ti_of_puts (by rw [hps] : (putsT [] l).2 = l)); clear hps HR2
      by_cases hf1 : (100 : Int) < fr.size
      · go_wp2_with fail
        refine (HLV.out _).mono ?_
        rintro e w9 ⟨rfl, hb9⟩
        have HZ := Lib.hid (HBB.out.trans (hb9.mono HBB.out.size)); clear hb9
        go_wp2_with fail
        go_ret
        exact ⟨rfl, HZ.out⟩
      · by_cases ht1 : (100 : Int) < tt.size
        · go_wp2_with fail
          refine (HLV.out _).mono ?_
          rintro e w9 ⟨rfl, hb9⟩
          have HZ := Lib.hid (HBB.out.trans (hb9.mono HBB.out.size)); clear hb9
          go_wp2_with fail
          go_ret
          exact ⟨rfl, HZ.out⟩
        · have HNW := Lib.hid (dirNew_any w2 (-1))
          go_wp2_with fail
          refine HNW.out.mono ?_
          rintro e w3 ⟨bd, bt, bm, rfl, hd3, hbd3, hb3⟩
          have hbd : w.heap.size ≤ bd := Nat.le_trans HBB.out.size hbd3
          have H3 := Lib.hid (And.intro hd3 (HBB.out.trans (hb3.mono HBB.out.size))); clear hd3 hbd3 hb3 HNW HBB
          go_wp2_with fail
          go_loopw [33] (fun iv wr => ∃ (i bt bm : Nat), i ≤ n ∧ iv = .int .i64 i ∧ DirAt wr bd bt bm ⟨-1, -1, i, false, l.take i⟩ ∧ Below w.heap.size w wr) (fun iv _ => n - (intOf iv).toNat)
          case atStart => exact ⟨0, bt, bm, Nat.zero_le _, rfl, H3.out.1, H3.out.2⟩
          case round =>
            obtain ⟨i, bt, bm, hi, rfl, hd, hb⟩ := hrel
            by_cases hlt : i < n
            · have hiL : i < l.length := by rw [HIN.out.1]; exact hlt
              obtain ⟨b, off, rfl, hbb, hcs⟩ := (HIN.out.2.2.below hb (Nat.le_refl _)) (by omega)
              have c0 := hcs i hiL 0 (by omega)
              have c1 := hcs i hiL 1 (by omega)
              have c2 := hcs i hiL 2 (by omega)
              have c3' := hcs i hiL 3 (by omega)
              have c4 := hcs i hiL 4 (by omega)
              simp only [eCSN, List.getElem?_cons_succ, List.getElem?_cons_zero, Nat.add_zero] at c0 c1 c2 c3' c4
              clear hcs
              have hi1 : (i : Int) < n := by omega
              have hsmx := HSM.out l[i] (List.getElem_mem hiL)
              have hni := (HIN.out.2.1 l[i] (List.getElem_mem hiL)).2
              obtain ⟨hmt, hpt⟩ := may_take HTI.out (by have := HIN.out.1; omega) i hiL
              have hbl : bytesT (l.take (i + 1)) ≤ 500 * (l.take (i + 1)).length := bytesT_le _ (fun e he => (HSM.out e (List.mem_of_mem_take he)).2)
              rw [List.length_take] at hbl
              obtain ⟨⟨q, kd, md, tm, dt⟩, hx⟩ : ∃ x, l[i] = x := ⟨_, rfl⟩
              simp only [hx] at c0 c1 c2 c3' c4 hsmx hni hmt hpt
              clear hx
              have hba := (Below.refl wr.heap.size wr).alloc (Nat.le_refl _) (.cells #[.string q, .int .i64 kd, .int .i64 md, .int .u32 tm, .string dt] 32)
              have hpa := dirPut_any _ bd bt bm ⟨-1, -1, i, false, l.take i⟩ i q ⟨kd, md, tm, dt⟩ (hd.below hba) ⟨by simp, by simp, by simp, by simp⟩ (by omega) (by rw [List.length_take]; omega) (by have := hsmx.1; simp only at this; omega) (by have := parent_small q; omega) hni (by simp only [hpt]; omega)
              have hpw : putW (-1) (l.take i) q ⟨kd, md, tm, dt⟩ = 0 := by unfold putW; rw [if_neg (by simpa using hmt)]; rfl
              simp only [hpw, hpt] at hpa
              rw [show stepD ⟨-1, -1, (i : Int), false, l.take i⟩ 0 (l.take (i + 1)) = (0, ⟨-1, -1, (i : Int) + 1, false, l.take (i + 1)⟩) from rfl] at hpa
              simp only [Nd.c] at hpa
              have HPA := Lib.hid hpa
              have HB := Lib.hid (hb.trans (hba.mono hb.size)); clear hpa hba hb hd hmt hpt hpw hbl hsmx hni
              go_wp2_with fail
              refine HPA.out.mono ?_
              rintro e w4 ⟨rfl, ⟨bt4, bm4, hd4⟩, hg4⟩
              have H4 := Lib.hid (And.intro hd4 (below_grown HB.out hg4 hbd HB.out.size)); clear hd4 hg4 HPA
              go_wp2_with fail
              go_roundw
              case rel => exact ⟨i + 1, bt4, bm4, by omega, by go_num, by have := H4.out.1; simpa using this, H4.out.2⟩
              case measure => simp [intOf]; omega
            · obtain rfl : n = i := by omega
              rw [List.take_of_length_le (by rw [HIN.out.1]; omega)] at hd
              have HD := Lib.hid (And.intro hd hb); clear hd hb
              have HRN := Lib.hid (dirRename_any wr bd bt bm ⟨-1, -1, n, false, l⟩ 30 fr tt HD.out.1 HTI.out ⟨by simp, by simp, by simp, by simp; omega⟩ (by decide) (by simp only; have := HIN.out.1; omega) (by omega) (by omega) (fun e he => ⟨by have := (HSM.out e he).1; omega, (HIN.out.2.1 e he).2⟩))
              simp only at HRN
              by_cases hrw : renW l fr tt = 0
              · have HRE := Lib.hid (ren_of HTI.out (by have := HIN.out.1; omega) hrw)
                rw [hrw, show stepD ⟨-1, -1, (n : Int), false, l⟩ 0 (renT l fr tt) = (0, ⟨-1, -1, (n : Int) + 1, false, renT l fr tt⟩) from rfl] at HRN
                have hback := HRE.out.back
                have hgets := HRE.out.gets
                have hlen := HRE.out.length
                have hbk := ren_zero hback.1
                have HLX := Lib.hid (And.intro hback (And.intro hgets (And.intro hlen hbk))); clear hrw hback hgets hlen hbk
                go_wp2_with fail
                refine HRN.out.mono ?_
                rintro e wx ⟨rfl, ⟨btx, bmx, hdx⟩, hgx⟩
                have HX := Lib.hid (And.intro hdx (below_grown HD.out.2 hgx hbd HD.out.2.size)); clear hdx hgx HRN
                have hg1 := dirGet_any wx bd btx bmx _ fr HX.out.1 (by simp only; rw [HLX.out.2.2.1]; have := HIN.out.1; omega) (by omega)
                simp only [HLX.out.2.1.1] at hg1
                rw [show ndZ.c = #[.int .i64 0, .int .i64 0, .int .u32 0, .string ⟨#[]⟩] from rfl] at hg1
                have HG1 := Lib.hid hg1; clear hg1
                have hnz := neq_node ⟨#[]⟩ 0 0 0
                have hnq := fun d k m t => neq_node d k m t
                go_wp2_with fail
                refine HG1.out.mono ?_
                rintro e wy ⟨rfl, hby⟩
                have HY := Lib.hid (And.intro (HX.out.1.below hby) (HX.out.2.trans (hby.mono HX.out.2.size))); clear hby HX HG1
                have hg2 := dirGet_any wy bd btx bmx _ tt HY.out.1 (by simp only; rw [HLX.out.2.2.1]; have := HIN.out.1; omega) (by omega)
                simp only [HLX.out.2.1.2] at hg2
                have hrg := fun W (h : Below w.heap.size w W) => (by have := ref16Get_any W _ l fr (HSV.out.below h (Nat.le_refl _)); rw [refGetT_eq l fr HTI.out.up] at this; exact this : Calls Tryz.prog 16 #[.slice A n c, .string fr] W fun e w' => e = .returned (.agg (getT l fr).c) ∧ Below W.heap.size W w')
                generalize getT l fr = gn at *
                obtain ⟨gk, gm, gt, gd⟩ := gn
                simp only [Nd.c] at hg2 hrg
                have HG2 := Lib.hid hg2
                have HRG := Lib.hid hrg; clear hg2 hrg
                go_wp2_with fail
                refine HG2.out.mono ?_
                rintro e wz ⟨rfl, hbz⟩
                have HZ := Lib.hid (And.intro (HY.out.1.below hbz) (HY.out.2.trans (hbz.mono HY.out.2.size))); clear hbz HY HG2
                have HRGZ := Lib.hid (HRG.out wz HZ.out.2)
                go_wp2_with fail
                refine HRGZ.out.mono ?_
                rintro e wa ⟨rfl, hba⟩
                have HA := Lib.hid (And.intro (HZ.out.1.below hba) (HZ.out.2.trans (hba.mono HZ.out.2.size))); clear hba HZ HRGZ HRG
                have HTX := Lib.hid (dirTree_any wa bd btx bmx _ HA.out.1)
                go_wp2_with fail
                refine HTX.out.mono ?_
                rintro e wb ⟨btb, bmb, rfl, htb, _, hbb⟩
                have hlb := treeLen_any wb btb bmb _ htb
                simp only [HLX.out.2.2.1, HIN.out.1] at hlb
                have HLB := Lib.hid hlb
                have HB := Lib.hid (And.intro (HA.out.1.below hbb) (HA.out.2.trans (hbb.mono HA.out.2.size))); clear hbb htb hlb HTX HA
                go_wp2_with fail
                refine HLB.out.mono ?_
                rintro e _ ⟨rfl, rfl⟩
                have hrn2 := dirRename_any wb bd btx bmx ⟨-1, -1, (n : Int) + 1, false, renT l fr tt⟩ 31 tt fr HB.out.1 HRE.out.puts.2 ⟨by simp, by simp, by simp only; omega, by simp only; omega⟩ (by decide) (by simp only; rw [HLX.out.2.2.1]; have := HIN.out.1; omega) (by omega) (by omega) (fun e he => by
                  obtain ⟨a, ha, rfl⟩ := List.mem_map.1 ((HRE.out.mem2 e).1 he)
                  have hr := HRE.out.puts.2.paths _ he
                  have hl := (rightL_len hr).1
                  have hz : (mvE fr tt a).1.data.toList.length = (mvE fr tt a).1.size := by simp
                  exact ⟨by omega, (HIN.out.2.1 a ha).2⟩)
                simp only at hrn2
                rw [HLX.out.2.2.2, HLX.out.1.2, show stepD ⟨-1, -1, (n : Int) + 1, false, renT l fr tt⟩ 0 l = (0, ⟨-1, -1, (n : Int) + 1 + 1, false, l⟩) from rfl] at hrn2
                have HRN2 := Lib.hid hrn2; clear hrn2 HLB
                go_wp2_with fail
                refine HRN2.out.mono ?_
                rintro e w5 ⟨rfl, ⟨bt5, bm5, hd5⟩, hg5⟩
                have hok5 : DS.Ok ⟨-1, -1, (n : Int) + 1 + 1, false, l⟩ 100 := ⟨by simp, by simp, by simp only; omega, by simp only; omega⟩
                obtain ⟨s5, hs5⟩ : ∃ s5 : DS, s5 = ⟨-1, -1, (n : Int) + 1 + 1, false, l⟩ := ⟨_, rfl⟩
                rw [← hs5] at hd5 hok5
                have HS5 := Lib.hid (show s5.xs = l ∧ s5.Ok 100 ∧ s5.fuse = -1 ∧ s5.off = false from ⟨by rw [hs5], hok5, by rw [hs5], by rw [hs5]⟩)
                have HD5 := Lib.hid (And.intro hd5 (below_grown HB.out.2 hg5 hbd HB.out.2.size)); clear hd5 hg5 hok5 hs5 HRN2 HB HLX HRE HD hnz hnq
                have hx5 : s5.xs.length ≤ 500 := by rw [HS5.out.1]; have := HIN.out.1; omega
                have HTR := Lib.hid (dirTree_any w5 bd bt5 bm5 s5 HD5.out.1)
                go_wp2_with fail
                refine HTR.out.mono ?_
                rintro e w6 ⟨bt6, bm6, rfl, ht6, hbm6, hb6⟩
                rw [HS5.out.1] at ht6
                have HIT := Lib.hid (treeItems_any w6 bt6 bm6 l ht6 (by have := HIN.out.1; omega))
                have H6 := Lib.hid (And.intro (HD5.out.1.below hb6) (HD5.out.2.trans (hb6.mono HD5.out.2.size))); clear hb6 ht6 HTR
                go_wp2_with fail
                refine HIT.out.mono ?_
                rintro e w7 ⟨r7, rfl, ho7, hb7⟩
                obtain ⟨A7, c7, rfl, _, _, _⟩ := SlV_of_any ho7
                have H7 := Lib.hid (And.intro (H6.out.1.below hb7) (H6.out.2.trans (hb7.mono H6.out.2.size)))
                have hslv7 : SlV w7 5 eCSN (.slice A n c) l := HSV.out.below H7.out.2 (Nat.le_refl _)
                have HWH := Lib.hid (ref16Whole_same w7 _ _ l ho7.slv hslv7); clear ho7 hb7 HIT H6 hslv7
                go_wp2_with fail
                refine HWH.out.mono ?_
                rintro e w8 ⟨rfl, hb8⟩
                have H8 := Lib.hid (And.intro (H7.out.1.below hb8) (H7.out.2.trans (hb8.mono H7.out.2.size))); clear hb8 H7 HWH
                have hrg := ref16Get_any w8 _ l fr (HSV.out.below H8.out.2 (Nat.le_refl _))
                rw [refGetT_eq l fr HTI.out.up] at hrg
                have HRG := Lib.hid hrg; clear hrg
                have hcl := dirClear_any w8
                have hca := clear_after HTI.out fr
                have hclw : clearW l fr = (if (getT l fr).kind = 0 then 7 else 0) := rfl
                have HCL := Lib.hid (fun W (h : DirAt W bd bt5 bm5 s5) => dirClear_any W bd bt5 bm5 s5 100 fr h (by rw [HS5.out.1]; exact HTI.out) HS5.out.2.1 (by decide) (by rw [HS5.out.1]; have := HIN.out.1; omega) (by omega))
                rw [HS5.out.1] at HCL
                obtain ⟨room5, fuse5, ops5, off5, xs5⟩ := s5
                obtain ⟨e51, e52, e53, e54⟩ := HS5.out
                simp only at e51 e53 e54
                subst e51 e53 e54
                clear hx5 hcl
                by_cases hk : (getT xs5 fr).kind = 0
                · have HC0 := Lib.hid (show clearW xs5 fr = 7 from by rw [hclw, if_pos hk])
                  obtain ⟨hg0, hu0⟩ := hca.2 (by rw [HC0.out]; decide)
                  rw [HC0.out] at HCL
                  have hst : stepD ⟨room5, -1, ops5, false, xs5⟩ 7 (xs5.filter (awayT fr)) = (7, ⟨room5, -1, ops5, false, xs5⟩) := rfl
                  rw [hst] at HCL
                  have HGN := Lib.hid (And.intro hg0 hu0)
                  obtain ⟨gn, hgn⟩ : ∃ gn, getT xs5 fr = gn := ⟨_, rfl⟩
                  rw [hgn] at HRG
                  have hke : (gn.kind != 0) = false := by rw [← hgn, hk]; rfl
                  have hgz := neq_node ⟨#[]⟩ 0 0 0
                  obtain ⟨gk, gm, gt, gd⟩ := gn
                  simp only [Nd.c] at HRG hke
                  clear hk hca hclw hst hgn hg0 hu0
                  have HCQ := HCL; clear HCL
                  have hfld := nodeField0
                  go_wp2_with fail
                  refine HRG.out.mono ?_
                  rintro e w9 ⟨rfl, hb9⟩
                  have H9 := Lib.hid (And.intro (H8.out.1.below hb9) (H8.out.2.trans (hb9.mono H8.out.2.size)))
                  have HC9 := Lib.hid (HCQ.out w9 H9.out.1); clear hb9 H8 HRG
                  go_wp2_with fail
                  refine HC9.out.mono ?_
                  rintro e wa ⟨rfl, ⟨bta, bma, hda⟩, hga⟩
                  have HA := Lib.hid (And.intro hda (below_grown H9.out.2 hga hbd H9.out.2.size)); clear hda hga HC9 H9
                  have hgt := dirGet_any wa bd bta bma _ fr HA.out.1 (by (try simp only); have := HIN.out.1; omega) (by omega)
                  simp only [HGN.out.1] at hgt
                  rw [show ndZ.c = #[.int .i64 0, .int .i64 0, .int .u32 0, .string ⟨#[]⟩] from rfl] at hgt
                  have HGT := Lib.hid hgt; clear hgt
                  go_wp2_with fail
                  refine HGT.out.mono ?_
                  rintro e wb ⟨rfl, hbb⟩
                  have HB := Lib.hid (And.intro (HA.out.1.below hbb) (HA.out.2.trans (hbb.mono HA.out.2.size))); clear hbb HA HGT
                  have HTR := Lib.hid (dirTree_any wb bd bta bma _ HB.out.1)
                  go_wp2_with fail
                  refine HTR.out.mono ?_
                  rintro e wc ⟨btc, bmc, rfl, htc, hbmc, hbc⟩
                  have hund := treeUnder_any wc btc bmc _ fr htc (by (try simp only); have := HIN.out.1; omega) (by omega)
                  simp only [HGN.out.2] at hund
                  have HUN := Lib.hid hund
                  have HC := Lib.hid (HB.out.2.trans (hbc.mono HB.out.2.size)); clear hbc htc hund HTR HB
                  go_wp2_with fail
                  refine HUN.out.mono ?_
                  rintro e wd ⟨rd, rfl, hod, hbd2⟩
                  obtain ⟨Ad, cd, rfl, _, _, _⟩ := SlV_of_any hod
                  have HBB := Lib.hid (HC.out.trans (hbd2.mono HC.out.size)); clear hbd2 hod HUN
                  go_wp2_with fail
                  refine (HLV.out _).mono ?_
                  rintro e w9 ⟨rfl, hb9⟩
                  have HZ := Lib.hid (HBB.out.trans (hb9.mono HBB.out.size)); clear hb9
                  go_wp2_with fail
                  go_ret
                  exact ⟨rfl, HZ.out⟩
                · have HC0 := Lib.hid (show clearW xs5 fr = 0 from by rw [hclw, if_neg hk])
                  obtain ⟨hg0, hu0⟩ := hca.1 HC0.out
                  rw [HC0.out] at HCL
                  have hst : stepD ⟨room5, -1, ops5, false, xs5⟩ 0 (xs5.filter (awayT fr)) = (0, ⟨room5, -1, ops5 + 1, false, xs5.filter (awayT fr)⟩) := rfl
                  rw [hst] at HCL
                  have HGN := Lib.hid (And.intro hg0 hu0)
                  obtain ⟨gn, hgn⟩ : ∃ gn, getT xs5 fr = gn := ⟨_, rfl⟩
                  rw [hgn] at HRG
                  have hke : (gn.kind != 0) = true := by rw [← hgn, bne_iff_ne]; exact hk
                  have hgz := neq_node ⟨#[]⟩ 0 0 0
                  obtain ⟨gk, gm, gt, gd⟩ := gn
                  simp only [Nd.c] at HRG hke
                  clear hk hca hclw hst hgn hg0 hu0
                  have HCQ := HCL; clear HCL
                  have hfld := nodeField0
                  go_wp2_with fail
                  refine HRG.out.mono ?_
                  rintro e w9 ⟨rfl, hb9⟩
                  have H9 := Lib.hid (And.intro (H8.out.1.below hb9) (H8.out.2.trans (hb9.mono H8.out.2.size)))
                  have HC9 := Lib.hid (HCQ.out w9 H9.out.1); clear hb9 H8 HRG
                  go_wp2_with fail
                  refine HC9.out.mono ?_
                  rintro e wa ⟨rfl, ⟨bta, bma, hda⟩, hga⟩
                  have HA := Lib.hid (And.intro hda (below_grown H9.out.2 hga hbd H9.out.2.size)); clear hda hga HC9 H9
                  have hgt := dirGet_any wa bd bta bma _ fr HA.out.1 (by (try simp only); have := List.length_filter_le (awayT fr) xs5; have := HIN.out.1; omega) (by omega)
                  simp only [HGN.out.1] at hgt
                  rw [show ndZ.c = #[.int .i64 0, .int .i64 0, .int .u32 0, .string ⟨#[]⟩] from rfl] at hgt
                  have HGT := Lib.hid hgt; clear hgt
                  go_wp2_with fail
                  refine HGT.out.mono ?_
                  rintro e wb ⟨rfl, hbb⟩
                  have HB := Lib.hid (And.intro (HA.out.1.below hbb) (HA.out.2.trans (hbb.mono HA.out.2.size))); clear hbb HA HGT
                  have HTR := Lib.hid (dirTree_any wb bd bta bma _ HB.out.1)
                  go_wp2_with fail
                  refine HTR.out.mono ?_
                  rintro e wc ⟨btc, bmc, rfl, htc, hbmc, hbc⟩
                  have hund := treeUnder_any wc btc bmc _ fr htc (by (try simp only); have := List.length_filter_le (awayT fr) xs5; have := HIN.out.1; omega) (by omega)
                  simp only [HGN.out.2] at hund
                  have HUN := Lib.hid hund
                  have HC := Lib.hid (HB.out.2.trans (hbc.mono HB.out.2.size)); clear hbc htc hund HTR HB
                  go_wp2_with fail
                  refine HUN.out.mono ?_
                  rintro e wd ⟨rd, rfl, hod, hbd2⟩
                  obtain ⟨Ad, cd, rfl, _, _, _⟩ := SlV_of_any hod
                  have HBB := Lib.hid (HC.out.trans (hbd2.mono HC.out.size)); clear hbd2 hod HUN
                  go_wp2_with fail
                  refine (HLV.out _).mono ?_
                  rintro e w9 ⟨rfl, hb9⟩
                  have HZ := Lib.hid (HBB.out.trans (hb9.mono HBB.out.size)); clear hb9
                  go_wp2_with fail
                  go_ret
                  exact ⟨rfl, HZ.out⟩
              · have hrne : (renW l fr tt == 0) = false := by rw [beq_eq_false_iff_ne]; exact hrw
                rw [show stepD ⟨-1, -1, (n : Int), false, l⟩ (renW l fr tt) (renT l fr tt) = (renW l fr tt, ⟨-1, -1, (n : Int), false, l⟩) from by unfold stepD; rw [if_neg (by simp), if_pos hrw]] at HRN
                generalize renW l fr tt = why at *
                clear hrw
                go_wp2_with fail
                refine HRN.out.mono ?_
                rintro e w5 ⟨rfl, ⟨bt5, bm5, hd5⟩, hg5⟩
                have hok5 : DS.Ok ⟨-1, -1, (n : Int), false, l⟩ 100 := ⟨by simp, by simp, by simp only; omega, by simp only; omega⟩
                obtain ⟨s5, hs5⟩ : ∃ s5 : DS, s5 = ⟨-1, -1, (n : Int), false, l⟩ := ⟨_, rfl⟩
                rw [← hs5] at hd5 hok5
                have HS5 := Lib.hid (show s5.xs = l ∧ s5.Ok 100 ∧ s5.fuse = -1 ∧ s5.off = false from ⟨by rw [hs5], hok5, by rw [hs5], by rw [hs5]⟩)
                have HD5 := Lib.hid (And.intro hd5 (below_grown HD.out.2 hg5 hbd HD.out.2.size)); clear hd5 hg5 hok5 hs5 HRN HD
                have hx5 : s5.xs.length ≤ 500 := by rw [HS5.out.1]; have := HIN.out.1; omega
                have HTR := Lib.hid (dirTree_any w5 bd bt5 bm5 s5 HD5.out.1)
                go_wp2_with fail
                refine HTR.out.mono ?_
                rintro e w6 ⟨bt6, bm6, rfl, ht6, hbm6, hb6⟩
                rw [HS5.out.1] at ht6
                have HIT := Lib.hid (treeItems_any w6 bt6 bm6 l ht6 (by have := HIN.out.1; omega))
                have H6 := Lib.hid (And.intro (HD5.out.1.below hb6) (HD5.out.2.trans (hb6.mono HD5.out.2.size))); clear hb6 ht6 HTR
                go_wp2_with fail
                refine HIT.out.mono ?_
                rintro e w7 ⟨r7, rfl, ho7, hb7⟩
                obtain ⟨A7, c7, rfl, _, _, _⟩ := SlV_of_any ho7
                have H7 := Lib.hid (And.intro (H6.out.1.below hb7) (H6.out.2.trans (hb7.mono H6.out.2.size)))
                have hslv7 : SlV w7 5 eCSN (.slice A n c) l := HSV.out.below H7.out.2 (Nat.le_refl _)
                have HWH := Lib.hid (ref16Whole_same w7 _ _ l ho7.slv hslv7); clear ho7 hb7 HIT H6 hslv7
                go_wp2_with fail
                refine HWH.out.mono ?_
                rintro e w8 ⟨rfl, hb8⟩
                have H8 := Lib.hid (And.intro (H7.out.1.below hb8) (H7.out.2.trans (hb8.mono H7.out.2.size))); clear hb8 H7 HWH
                have hrg := ref16Get_any w8 _ l fr (HSV.out.below H8.out.2 (Nat.le_refl _))
                rw [refGetT_eq l fr HTI.out.up] at hrg
                have HRG := Lib.hid hrg; clear hrg
                have hcl := dirClear_any w8
                have hca := clear_after HTI.out fr
                have hclw : clearW l fr = (if (getT l fr).kind = 0 then 7 else 0) := rfl
                have HCL := Lib.hid (fun W (h : DirAt W bd bt5 bm5 s5) => dirClear_any W bd bt5 bm5 s5 100 fr h (by rw [HS5.out.1]; exact HTI.out) HS5.out.2.1 (by decide) (by rw [HS5.out.1]; have := HIN.out.1; omega) (by omega))
                rw [HS5.out.1] at HCL
                obtain ⟨room5, fuse5, ops5, off5, xs5⟩ := s5
                obtain ⟨e51, e52, e53, e54⟩ := HS5.out
                simp only at e51 e53 e54
                subst e51 e53 e54
                clear hx5 hcl
                by_cases hk : (getT xs5 fr).kind = 0
                · have HC0 := Lib.hid (show clearW xs5 fr = 7 from by rw [hclw, if_pos hk])
                  obtain ⟨hg0, hu0⟩ := hca.2 (by rw [HC0.out]; decide)
                  rw [HC0.out] at HCL
                  have hst : stepD ⟨room5, -1, ops5, false, xs5⟩ 7 (xs5.filter (awayT fr)) = (7, ⟨room5, -1, ops5, false, xs5⟩) := rfl
                  rw [hst] at HCL
                  have HGN := Lib.hid (And.intro hg0 hu0)
                  obtain ⟨gn, hgn⟩ : ∃ gn, getT xs5 fr = gn := ⟨_, rfl⟩
                  rw [hgn] at HRG
                  have hke : (gn.kind != 0) = false := by rw [← hgn, hk]; rfl
                  have hgz := neq_node ⟨#[]⟩ 0 0 0
                  obtain ⟨gk, gm, gt, gd⟩ := gn
                  simp only [Nd.c] at HRG hke
                  clear hk hca hclw hst hgn hg0 hu0
                  have HCQ := HCL; clear HCL
                  have hfld := nodeField0
                  go_wp2_with fail
                  refine HRG.out.mono ?_
                  rintro e w9 ⟨rfl, hb9⟩
                  have H9 := Lib.hid (And.intro (H8.out.1.below hb9) (H8.out.2.trans (hb9.mono H8.out.2.size)))
                  have HC9 := Lib.hid (HCQ.out w9 H9.out.1); clear hb9 H8 HRG
                  go_wp2_with fail
                  refine HC9.out.mono ?_
                  rintro e wa ⟨rfl, ⟨bta, bma, hda⟩, hga⟩
                  have HA := Lib.hid (And.intro hda (below_grown H9.out.2 hga hbd H9.out.2.size)); clear hda hga HC9 H9
                  have hgt := dirGet_any wa bd bta bma _ fr HA.out.1 (by (try simp only); have := HIN.out.1; omega) (by omega)
                  simp only [HGN.out.1] at hgt
                  rw [show ndZ.c = #[.int .i64 0, .int .i64 0, .int .u32 0, .string ⟨#[]⟩] from rfl] at hgt
                  have HGT := Lib.hid hgt; clear hgt
                  go_wp2_with fail
                  refine HGT.out.mono ?_
                  rintro e wb ⟨rfl, hbb⟩
                  have HB := Lib.hid (And.intro (HA.out.1.below hbb) (HA.out.2.trans (hbb.mono HA.out.2.size))); clear hbb HA HGT
                  have HTR := Lib.hid (dirTree_any wb bd bta bma _ HB.out.1)
                  go_wp2_with fail
                  refine HTR.out.mono ?_
                  rintro e wc ⟨btc, bmc, rfl, htc, hbmc, hbc⟩
                  have hund := treeUnder_any wc btc bmc _ fr htc (by (try simp only); have := HIN.out.1; omega) (by omega)
                  simp only [HGN.out.2] at hund
                  have HUN := Lib.hid hund
                  have HC := Lib.hid (HB.out.2.trans (hbc.mono HB.out.2.size)); clear hbc htc hund HTR HB
                  go_wp2_with fail
                  refine HUN.out.mono ?_
                  rintro e wd ⟨rd, rfl, hod, hbd2⟩
                  obtain ⟨Ad, cd, rfl, _, _, _⟩ := SlV_of_any hod
                  have HBB := Lib.hid (HC.out.trans (hbd2.mono HC.out.size)); clear hbd2 hod HUN
                  go_wp2_with fail
                  refine (HLV.out _).mono ?_
                  rintro e w9 ⟨rfl, hb9⟩
                  have HZ := Lib.hid (HBB.out.trans (hb9.mono HBB.out.size)); clear hb9
                  go_wp2_with fail
                  go_ret
                  exact ⟨rfl, HZ.out⟩
                · have HC0 := Lib.hid (show clearW xs5 fr = 0 from by rw [hclw, if_neg hk])
                  obtain ⟨hg0, hu0⟩ := hca.1 HC0.out
                  rw [HC0.out] at HCL
                  have hst : stepD ⟨room5, -1, ops5, false, xs5⟩ 0 (xs5.filter (awayT fr)) = (0, ⟨room5, -1, ops5 + 1, false, xs5.filter (awayT fr)⟩) := rfl
                  rw [hst] at HCL
                  have HGN := Lib.hid (And.intro hg0 hu0)
                  obtain ⟨gn, hgn⟩ : ∃ gn, getT xs5 fr = gn := ⟨_, rfl⟩
                  rw [hgn] at HRG
                  have hke : (gn.kind != 0) = true := by rw [← hgn, bne_iff_ne]; exact hk
                  have hgz := neq_node ⟨#[]⟩ 0 0 0
                  obtain ⟨gk, gm, gt, gd⟩ := gn
                  simp only [Nd.c] at HRG hke
                  clear hk hca hclw hst hgn hg0 hu0
                  have HCQ := HCL; clear HCL
                  have hfld := nodeField0
                  go_wp2_with fail
                  refine HRG.out.mono ?_
                  rintro e w9 ⟨rfl, hb9⟩
                  have H9 := Lib.hid (And.intro (H8.out.1.below hb9) (H8.out.2.trans (hb9.mono H8.out.2.size)))
                  have HC9 := Lib.hid (HCQ.out w9 H9.out.1); clear hb9 H8 HRG
                  go_wp2_with fail
                  refine HC9.out.mono ?_
                  rintro e wa ⟨rfl, ⟨bta, bma, hda⟩, hga⟩
                  have HA := Lib.hid (And.intro hda (below_grown H9.out.2 hga hbd H9.out.2.size)); clear hda hga HC9 H9
                  have hgt := dirGet_any wa bd bta bma _ fr HA.out.1 (by (try simp only); have := List.length_filter_le (awayT fr) xs5; have := HIN.out.1; omega) (by omega)
                  simp only [HGN.out.1] at hgt
                  rw [show ndZ.c = #[.int .i64 0, .int .i64 0, .int .u32 0, .string ⟨#[]⟩] from rfl] at hgt
                  have HGT := Lib.hid hgt; clear hgt
                  go_wp2_with fail
                  refine HGT.out.mono ?_
                  rintro e wb ⟨rfl, hbb⟩
                  have HB := Lib.hid (And.intro (HA.out.1.below hbb) (HA.out.2.trans (hbb.mono HA.out.2.size))); clear hbb HA HGT
                  have HTR := Lib.hid (dirTree_any wb bd bta bma _ HB.out.1)
                  go_wp2_with fail
                  refine HTR.out.mono ?_
                  rintro e wc ⟨btc, bmc, rfl, htc, hbmc, hbc⟩
                  have hund := treeUnder_any wc btc bmc _ fr htc (by (try simp only); have := List.length_filter_le (awayT fr) xs5; have := HIN.out.1; omega) (by omega)
                  simp only [HGN.out.2] at hund
                  have HUN := Lib.hid hund
                  have HC := Lib.hid (HB.out.2.trans (hbc.mono HB.out.2.size)); clear hbc htc hund HTR HB
                  go_wp2_with fail
                  refine HUN.out.mono ?_
                  rintro e wd ⟨rd, rfl, hod, hbd2⟩
                  obtain ⟨Ad, cd, rfl, _, _, _⟩ := SlV_of_any hod
                  have HBB := Lib.hid (HC.out.trans (hbd2.mono HC.out.size)); clear hbd2 hod HUN
                  go_wp2_with fail
                  refine (HLV.out _).mono ?_
                  rintro e w9 ⟨rfl, hb9⟩
                  have HZ := Lib.hid (HBB.out.trans (hb9.mono HBB.out.size)); clear hb9
                  go_wp2_with fail
                  go_ret
                  exact ⟨rfl, HZ.out⟩
end Go.Proofs.YthnnnlbdbkdcaaaGreatDoor
/- The walk of DirfsBack in the statement's form. -/
set_option linter.unusedVariables false
set_option linter.unusedSimpArgs false
namespace Go.Proofs.YthnnnlbdbkdcaaaGreatDoor
open Go Go.ChangeShapes Go.WideShapes Go.ChangeAt Go.RowKit Go.Shelf
open Go.ChangeMaps (open_string)
open Sw
set_option maxRecDepth 100000 in
theorem dirfsBack_walk : Walks 4 Tryz.f4 := by
  intro H enc W base args ds ps hval hA hlt hsz
  rw [Tryz.params4] at hA hval
  obtain ⟨v0, v1, v2, d0, d1, d2, p0, p1, p2, rfl, rfl, rfl, h0, h1, h2⟩ := trodAll_three hA
  obtain ⟨A, n, c, l, rfl, hnc, hcm, hl, hsl, hv, _⟩ := open_slice_dec (size := 5) eCSN NEIn Tryz.underlying22 (by kernel_rfl) (by omega) dec_item (hval 0 22 v0 rfl rfl) h0
  obtain ⟨t, rfl, rfl, rfl, ht⟩ := open_string Tryz.underlying9 (hval 1 9 v1 rfl rfl) h1
  obtain ⟨t2, rfl, rfl, rfl, ht2⟩ := open_string Tryz.underlying9 (hval 2 9 v2 rfl rfl) h2
  exact dirfsBack_main W A n c l t t2 hl hnc hcm hsl hv ht ht2
end Go.Proofs.YthnnnlbdbkdcaaaGreatDoor
