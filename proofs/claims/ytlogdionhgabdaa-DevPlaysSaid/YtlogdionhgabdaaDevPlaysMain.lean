/- The main walk of DevPlays. -/
import Derived.Test.YtlogdionhgabdaaDevTwo
import Derived.Test.YtlogdionhgabdaaChain
import Derived.Deep.CutBlock
set_option linter.unusedVariables false
set_option linter.unusedSimpArgs false
namespace Go.Proofs.Ytlogdionhgabdaa
open Go Go.RowKit
open Sw
set_option maxRecDepth 100000 in
set_option maxHeartbeats 16000000 in
theorem devPlays_main (w : World) (A : Option Addr) (n c : Nat) (l : List St17) (size : Int) (hl : l.length = n) (hnc : n ≤ c) (hcm : c ≤ maxLen) (hsl : SlOf w 4 st17C A l) (hin : ∀ s ∈ l, St17In w s) :
    Calls Try.prog 4 #[.int .i64 size, .slice A n c] w fun e w' => e = .returned (.bool true) ∧ Below w.heap.size w w' := by
  unfold maxLen at hcm
  have HLV := Lib.hid (fun W => lives17_any W)
  by_cases hs12 : 12 < size
  · clear hsl hin
    go_enter Try.func4, Try.ntmps4
    go_wp2_with fail
    refine (HLV.out _).mono ?_
    rintro e w9 ⟨rfl, hb9⟩
    go_wp2_with fail
    go_ret
    exact ⟨rfl, hb9⟩
  · by_cases hbig : 30 < n
    · have hb1 : (30 : Int) < n := by omega
      clear hsl hin hbig
      go_enter Try.func4, Try.ntmps4
      go_wp2_with fail
      refine (HLV.out _).mono ?_
      rintro e w9 ⟨rfl, hb9⟩
      go_wp2_with fail
      go_ret
      exact ⟨rfl, hb9⟩
    · have hb1 : ¬ (30 : Int) < n := by omega
      have HIN := Lib.hid (And.intro hl (And.intro hin hsl)); clear hl hin hsl hbig
      have HN0 := Lib.hid (devNew_any w size)
      go_enter Try.func4, Try.ntmps4
      go_wp2_with fail
      refine HN0.out.mono ?_
      rintro e w1 ⟨bd, F0, rfl, hd, hF, hb⟩
      have H1 := Lib.hid (And.intro hd (And.intro hF hb)); clear hd hF hb HN0
      have HN1 := Lib.hid (refNew_any w1 size)
      go_wp2_with fail
      refine HN1.out.mono ?_
      rintro e w2 ⟨br, G0, rfl, hr, hG, hb⟩
      have ht2 : Two17 w bd br (newD size) w2 := ⟨F0, G0, H1.out.1.below hb, hr, fun i hi hg => (by have := H1.out.1.lt i hi; have := hG i hg; omega), H1.out.2.1, fun i hi => Nat.le_trans H1.out.2.2.size (hG i hi), H1.out.2.2.trans (hb.mono H1.out.2.2.size)⟩
      have hg2 : G17 0 (newD size) := ⟨newD_ok size, Nat.le_refl _, by show (0 : Int) ≤ ((0 : Nat) : Int); omega, by show (max 0 (min size 8192)).toNat ≤ 12; omega⟩
      have H2 := Lib.hid (And.intro ht2 hg2); clear ht2 hg2 hr hG hb H1 HN1
      go_wp2_with fail
      go_loopw [26] (fun iv wr => ∃ (i : Nat) (s1 : Dv), i ≤ n ∧ iv = .int .i64 i ∧ Two17 w bd br s1 wr ∧ G17 i s1) (fun iv _ => n - (intOf iv).toNat)
      case atStart => exact ⟨0, _, Nat.zero_le _, rfl, H2.out.1, H2.out.2⟩
      case round =>
        obtain ⟨i, s1, hi, rfl, ht, hgd⟩ := hrel
        clear H2
        obtain ⟨wo, hwo⟩ : ∃ wo, wo = wr := ⟨_, rfl⟩
        rw [← hwo] at ht ⊢
        clear hwo wr
        by_cases hlt : i < n
        · have hiL : i < l.length := by rw [HIN.out.1]; exact hlt
          obtain ⟨F, G, hd, hr, hdis, hlF, hlG, hold⟩ := ht
          obtain ⟨ab, off, hA, hbb, hcs⟩ := (HIN.out.2.2.below hold (Nat.le_refl _)) (by omega)
          have c0 := hcs i hiL 0 (by omega)
          have c1 := hcs i hiL 1 (by omega)
          have c2 := hcs i hiL 2 (by omega)
          have c3' := hcs i hiL 3 (by omega)
          simp only [st17C, List.getElem?_cons_succ, List.getElem?_cons_zero, Nat.add_zero] at c0 c1 c2 c3'
          subst hA
          clear hcs
          have hi1 : (i : Int) < n := by omega
          have hsin := HIN.out.2.1 l[i] (List.getElem_mem hiL)
          obtain ⟨⟨kd, po, b, v, kp⟩, hx⟩ : ∃ x, l[i] = x := ⟨_, rfl⟩
          simp only [hx] at c0 c1 c2 c3' hsin
          clear hx
          have hk0 : 0 ≤ kd := hsin.k0
          have hk1 : kd < 18446744073709551616 := hsin.k1
          have hpo0 : -9223372036854775808 ≤ po := hsin.pos.1
          have hpo1 : po ≤ 9223372036854775807 := hsin.pos.2
          obtain ⟨KA, kc, hkv, _⟩ := id hsin.slv
          simp only at hkv
          subst hkv
          obtain ⟨kl, hkl⟩ : ∃ kl, kp.length = kl := ⟨_, rfl⟩
          have hsv := hsin.slv
          have hkin := hsin.keep
          simp only at hsv hkin
          rw [hkl] at c3' hsv
          try rw [hkl]
          have hkm : kp.length ≤ maxLen := by
            obtain ⟨_, _, _, h1, h2, _⟩ := hsv
            exact Nat.le_trans h1 h2
          have HSV := Lib.hid (show SlV w 1 intE (.slice KA kl kc) kp ∧ kp.length ≤ maxLen ∧ ∀ x ∈ kp, -9223372036854775808 ≤ x ∧ x ≤ 9223372036854775807 from ⟨hsv, hkm, hkin⟩)
          clear hsin hsv hkin hkm hkl
          obtain ⟨W1, hW1⟩ : ∃ W1, wo.alloc (.cells #[.int .u64 kd, .int .i64 po, .int .u8 (b.toNat : Int), .slice KA kl kc] 30) = W1 := ⟨_, rfl⟩
          obtain ⟨N, hN⟩ : ∃ N, wo.heap.size = N := ⟨_, rfl⟩
          have hal : Below wo.heap.size wo W1 := by rw [← hW1]; exact (Below.refl _ _).alloc (Nat.le_refl _) _
          have H1 := Lib.hid (show Tw w bd br N #[.int .u64 kd, .int .i64 po, .int .u8 (b.toNat : Int), .slice KA kl kc] F G s1 s1 W1 from ⟨hd.below hal, hr.below hal, hdis, hlF, hlG, hold.trans (hal.mono hold.size), fun h => by have := hd.lt N h; omega, fun h => by have := hr.lt N h; omega, by rw [← hW1, ← hN]; exact Blk.new wo _ _⟩)
          have HG1 := Lib.hid hgd
          clear hd hr hdis hlF hlG hold hal hgd
          obtain ⟨d1, hd1⟩ : ∃ d1, d1 = s1 := ⟨_, rfl⟩
          rw [← hd1] at H1 HG1
          clear hd1 s1
          obtain ⟨m, hm, hm6⟩ : ∃ m : Int, kd % 6 = m ∧ (m = 0 ∨ m = 1 ∨ m = 2 ∨ m = 3 ∨ m = 4 ∨ m = 5) := ⟨kd % 6, rfl, by omega⟩
          have z0 := H1.out.blk.cell 0
          simp at z0
          go_upto_block 2 with fail
          try rw [hW1]
          try rw [hN]
          clear hW1 hN c0 c1 c2 c3'
          go_cut [9, 10] from 27 to 96 (fun a b wx => ∃ (r : Int) (s2 : Dv), a = .int .i64 r ∧ b = .int .i64 r ∧ Two17 w bd br s2 wx ∧ G17 (i + 1) s2)
          case first =>
            rcases hm6 with rfl | rfl | rfl | rfl | rfl | rfl
            · -- k0
              have HT := Lib.hid H1.out.drew; clear H1
              have j1 : ∀ m : Held (fun W => Blk W N 30 #[.int .u64 kd, .int .i64 po, .int .u8 (b.toNat : Int), .slice KA kl kc]), (HeldW m).cell? ⟨N, 1, none⟩ = some (.int .i64 po) := fun m => Blk.cell (HeldW_spec m) 1
              have j2 : ∀ m : Held (fun W => Blk W N 30 #[.int .u64 kd, .int .i64 po, .int .u8 (b.toNat : Int), .slice KA kl kc]), (HeldW m).cell? ⟨N, 2, none⟩ = some (.int .u8 (b.toNat : Int)) := fun m => Blk.cell (HeldW_spec m) 2
              have hw := fun W F (h : DevAt W F bd d1) => (h : DevAt W F bd d1)
              clear hw
              go_wp2_with fail
              refine wp_region_mix (fun W => Blk W N 30 #[.int .u64 kd, .int .i64 po, .int .u8 (b.toNat : Int), .slice KA kl kc]) [(0, true), (1, true), (2, true), (3, true), (4, true), (7, true), (8, true), (9, true), (10, true), (11, true), (5, false), (6, false), (12, false), (13, false), (14, true), (15, true)] (by kernel_rfl) (by kernel_rfl) ?_
              simp only [pickP, List.filterMap_cons, List.filterMap_nil, List.getElem?_toArray, List.getElem?_cons_succ, List.getElem?_cons_zero, Option.map_some]
              repeat (apply mix_first; apply Exists.intro; refine ⟨fun m => ?_, HT.out.blk, ?_⟩; · (go_big_quiet_step (fail); exact wpQuiet_nil rfl))
              refine mix_forced HT.out.blk ?_
              go_wp2_with fail
              refine (sector_any b _).mono ?_
              rintro e wa ⟨rfl, hba⟩
              have HA := Lib.hid (HT.out.below hba); clear hba HT
              obtain ⟨bs, bw, fS, fW, hdi⟩ := HA.out.dev
              have HW := Lib.hid (devWrite_any hdi HG1.out.ok (by have := HG1.out.wl; omega) (by have := HG1.out.op; omega) po (secS b)); clear hdi
              go_wp2_with fail
              show mixC _ _ _ _ _ _ _
              refine mix_forced HA.out.blk ?_
              go_wp2_with fail
              refine HW.out.mono ?_
              clear HW
              rintro e wb ⟨rfl, ⟨F2, hd2, hF2⟩, ht2⟩
              have HB := Lib.hid (HA.out.devStep hd2 hF2 ht2); clear hd2 hF2 ht2 HA
              go_wp2_with fail
              show mixC _ _ _ _ _ _ _
              refine mix_forced HB.out.blk ?_
              go_wp2_with fail
              refine (sector_any b _).mono ?_
              rintro e we ⟨rfl, hbc⟩
              have HC := Lib.hid (HB.out.below hbc); clear hbc HB
              obtain ⟨vS, vW, hri⟩ := HC.out.ref
              have HW := Lib.hid (refWrite_any hri HG1.out.ok (by have := HG1.out.wl; omega) (by have := HG1.out.op; omega) po (secS b)); clear hri
              go_wp2_with fail
              show mixC _ _ _ _ _ _ _
              refine mix_forced HC.out.blk ?_
              go_wp2_with fail
              refine HW.out.mono ?_
              clear HW
              rintro e wf ⟨rfl, ⟨G2, hr2, hG2⟩, ht2⟩
              have HD := Lib.hid (HC.out.refStep hr2 hG2 ht2); clear hr2 hG2 ht2 HC
              go_wp2_with fail
              show mixC _ _ _ _ _ _ _
              repeat (apply mix_first; apply Exists.intro; refine ⟨fun m => ?_, HD.out.blk, ?_⟩; · (go_big_quiet_step (fail); exact wpQuiet_nil rfl))
              refine mix_nil HD.out.blk ?_
              clear j1 j2
              have HG2 := Lib.hid (HG1.out.write po (secS b)); clear HG1
              go_wp2_with fail
              go_meet
              case rel => exact ⟨_, _, rfl, rfl, HD.out.two, HG2.out⟩
            · -- k1
              obtain ⟨bs, bw, fS, fW, hdi⟩ := H1.out.dev
              have HW := Lib.hid (devFlush_any hdi HG1.out.ok (by have := HG1.out.wl; omega) (by have := HG1.out.op; omega)); clear hdi
              go_wp2_with fail
              refine HW.out.mono ?_
              clear HW
              rintro e wb ⟨rfl, ⟨F2, hd2, hF2⟩, ht2⟩
              have HB := Lib.hid (H1.out.devStep hd2 hF2 ht2); clear hd2 hF2 ht2 H1
              obtain ⟨vS, vW, hri⟩ := HB.out.ref
              have HW := Lib.hid (refFlush_any hri HG1.out.ok (by have := HG1.out.wl; omega) (by have := HG1.out.op; omega)); clear hri
              go_wp2_with fail
              refine HW.out.mono ?_
              clear HW
              rintro e wf ⟨rfl, ⟨G2, hr2, hG2⟩, ht2⟩
              have HD := Lib.hid (HB.out.refStep hr2 hG2 ht2); clear hr2 hG2 ht2 HB
              have HG2 := Lib.hid HG1.out.flush; clear HG1
              go_wp2_with fail
              go_meet
              case rel => exact ⟨_, _, rfl, rfl, HD.out.two, HG2.out⟩
            · -- k2
              obtain ⟨bs, bw, fS, fW, hdi⟩ := H1.out.dev
              have z1 := H1.out.blk.cell 1
              simp at z1
              have HW := Lib.hid (devLimit_any hdi po); clear hdi
              go_wp2_with fail
              refine HW.out.mono ?_
              clear HW
              rintro e wb ⟨rfl, hd2, ht2⟩
              have HB := Lib.hid (H1.out.devStep (show DevAt wb F bd _ from ⟨_, _, _, _, hd2⟩) (fun j hj => .inl hj) ht2); clear hd2 ht2 H1 z1
              obtain ⟨vS, vW, hri⟩ := HB.out.ref
              have z1 := HB.out.blk.cell 1
              simp at z1
              have q := hri.box.cell 2
              have p := hri.box.frozen 2
              simp at q
              obtain ⟨M, hM⟩ : ∃ M, max po (-1) = M := ⟨_, rfl⟩
              have HG2 := Lib.hid (HG1.out.limit po (by omega)); clear HG1
              rw [hM] at HB HG2
              have HR := Lib.hid hri; clear hri
              go_wp2_with fail
              have HD := Lib.hid (HB.out.refStep (e' := { d1 with limit := M }) ⟨_, _, HR.out.cell 2 (.int .i64 M) _ (by simp) rfl rfl rfl⟩ (fun j hj => .inl hj) ((Turn.refl G wb).put _ HR.out.inD _)); clear HR HB
              go_meet
              case rel => exact ⟨0, _, rfl, rfl, HD.out.two, HG2.out⟩
            · -- k3
              obtain ⟨bs, bw, fS, fW, hdi⟩ := H1.out.dev
              have z1 := H1.out.blk.cell 1
              simp at z1
              have HW := Lib.hid (devFuse_any hdi po); clear hdi
              go_wp2_with fail
              refine HW.out.mono ?_
              clear HW
              rintro e wb ⟨rfl, hd2, ht2⟩
              have HB := Lib.hid (H1.out.devStep (show DevAt wb F bd _ from ⟨_, _, _, _, hd2⟩) (fun j hj => .inl hj) ht2); clear hd2 ht2 H1 z1
              obtain ⟨vS, vW, hri⟩ := HB.out.ref
              have z1 := HB.out.blk.cell 1
              simp at z1
              have q := hri.box.cell 3
              have p := hri.box.frozen 3
              simp at q
              obtain ⟨M, hM⟩ : ∃ M, max po (-1) = M := ⟨_, rfl⟩
              have HG2 := Lib.hid (HG1.out.fuse po (by omega)); clear HG1
              rw [hM] at HB HG2
              have HR := Lib.hid hri; clear hri
              go_wp2_with fail
              have HD := Lib.hid (HB.out.refStep (e' := { d1 with fuse := M }) ⟨_, _, HR.out.cell 3 (.int .i64 M) _ (by simp) rfl rfl rfl⟩ (fun j hj => .inl hj) ((Turn.refl G wb).put _ HR.out.inD _)); clear HR HB
              go_meet
              case rel => exact ⟨0, _, rfl, rfl, HD.out.two, HG2.out⟩
            · -- k4
              obtain ⟨bs, bw, fS, fW, hdi⟩ := H1.out.dev
              have z3 := H1.out.blk.cell 3
              simp at z3
              have hsv : ∀ W, Turn F W1 W → SlV W 1 intE (.slice KA kl kc) kp := fun W hW => slv_past HSV.out.1 H1.out.old H1.out.lowF hW
              have HW := Lib.hid (devRestart_any hdi HG1.out.ok (by have := HG1.out.wl; omega) (.slice KA kl kc) kp HSV.out.2.1 HSV.out.2.2 hsv); clear hdi hsv
              go_wp2_with fail
              refine HW.out.mono ?_
              clear HW z3
              rintro e wb ⟨rfl, ⟨F2, hd2, hF2⟩, ht2⟩
              have HB := Lib.hid (H1.out.devStep hd2 hF2 ht2); clear hd2 hF2 ht2 H1
              obtain ⟨vS, vW, hri⟩ := HB.out.ref
              have z3 := HB.out.blk.cell 3
              simp at z3
              have hsv : ∀ W, Turn G wb W → SlV W 1 intE (.slice KA kl kc) kp := fun W hW => slv_past HSV.out.1 HB.out.old HB.out.lowG hW
              have HW := Lib.hid (refRestart_any hri HG1.out.ok (by have := HG1.out.wl; omega) (.slice KA kl kc) kp HSV.out.2.1 HSV.out.2.2 hsv); clear hri hsv
              go_wp2_with fail
              refine HW.out.mono ?_
              clear HW z3
              rintro e wf ⟨rfl, ⟨G2, hr2, hG2⟩, ht2⟩
              have HD := Lib.hid (HB.out.refStep hr2 hG2 ht2); clear hr2 hG2 ht2 HB
              have HG2 := Lib.hid (HG1.out.restart kp); clear HG1
              go_wp2_with fail
              go_meet
              case rel => exact ⟨0, _, rfl, rfl, HD.out.two, HG2.out⟩
            · -- k5
              have HT := Lib.hid H1.out.drew; clear H1
              have j1 : ∀ m : Held (fun W => Blk W N 30 #[.int .u64 kd, .int .i64 po, .int .u8 (b.toNat : Int), .slice KA kl kc]), (HeldW m).cell? ⟨N, 1, none⟩ = some (.int .i64 po) := fun m => Blk.cell (HeldW_spec m) 1
              go_wp2_with fail
              refine wp_region_mix (fun W => Blk W N 30 #[.int .u64 kd, .int .i64 po, .int .u8 (b.toNat : Int), .slice KA kl kc]) [(0, true), (1, true), (2, true), (4, true), (5, true), (6, true), (3, false), (7, false), (8, true), (9, true)] (by kernel_rfl) (by kernel_rfl) ?_
              simp only [pickP, List.filterMap_cons, List.filterMap_nil, List.getElem?_toArray, List.getElem?_cons_succ, List.getElem?_cons_zero, Option.map_some]
              repeat (apply mix_first; apply Exists.intro; refine ⟨fun m => ?_, HT.out.blk, ?_⟩; · (go_big_quiet_step (fail); exact wpQuiet_nil rfl))
              refine mix_forced HT.out.blk ?_
              obtain ⟨bs, bw, fS, fW, hdi⟩ := HT.out.dev
              have HW := Lib.hid (devWrite_any hdi HG1.out.ok (by have := HG1.out.wl; omega) (by have := HG1.out.op; omega) po ⟨#[120]⟩); clear hdi
              go_wp2_with fail
              refine HW.out.mono ?_
              clear HW
              rintro e wb ⟨rfl, ⟨F2, hd2, hF2⟩, ht2⟩
              have HB := Lib.hid (HT.out.devStep hd2 hF2 ht2); clear hd2 hF2 ht2 HT
              obtain ⟨vS, vW, hri⟩ := HB.out.ref
              have HW := Lib.hid (refWrite_any hri HG1.out.ok (by have := HG1.out.wl; omega) (by have := HG1.out.op; omega) po ⟨#[120]⟩); clear hri
              go_wp2_with fail
              show mixC _ _ _ _ _ _ _
              refine mix_forced HB.out.blk ?_
              go_wp2_with fail
              refine HW.out.mono ?_
              clear HW
              rintro e wf ⟨rfl, ⟨G2, hr2, hG2⟩, ht2⟩
              have HD := Lib.hid (HB.out.refStep hr2 hG2 ht2); clear hr2 hG2 ht2 HB
              go_wp2_with fail
              show mixC _ _ _ _ _ _ _
              repeat (apply mix_first; apply Exists.intro; refine ⟨fun m => ?_, HD.out.blk, ?_⟩; · (go_big_quiet_step (fail); exact wpQuiet_nil rfl))
              refine mix_nil HD.out.blk ?_
              clear j1
              have HG2 := Lib.hid (HG1.out.write po ⟨#[120]⟩); clear HG1
              go_wp2_with fail
              go_meet
              case rel => exact ⟨_, _, rfl, rfl, HD.out.two, HG2.out⟩
          case rest =>
            obtain ⟨r, s2, rfl, rfl, ht, hg2⟩ := hcut
            clear H1 HG1 hm hm6 z0
            obtain ⟨F, G, hd, ⟨vS, vW, hri⟩, hdis, hlF, hlG, hold⟩ := ht
            obtain ⟨AS, cS, hvs, _⟩ := SlV_of_any hri.sure
            obtain ⟨AW, cW, hvw, _⟩ := SlV_of_any hri.wet
            subst hvs
            subst hvw
            have k1 : ∀ m : Held (Aft wc), (HeldW m).cell? ⟨br, 1, none⟩ = some (.slice AW s2.wet.length cW) := fun m => (Aft.cell m hri.box.lt).trans (hri.box.cell 1)
            have k4 : ∀ m : Held (Aft wc), (HeldW m).cell? ⟨br, 4, none⟩ = some (.bool s2.off) := fun m => (Aft.cell m hri.box.lt).trans (hri.box.cell 4)
            have k5 : ∀ m : Held (Aft wc), (HeldW m).cell? ⟨br, 5, none⟩ = some (.int .i64 s2.ops) := fun m => (Aft.cell m hri.box.lt).trans (hri.box.cell 5)
            have HX := Lib.hid (And.intro hdis (And.intro hlF hlG)); clear hdis hlF hlG
            have HT := Lib.hid (And.intro (hd.below ((Below.refl _ wc).drew)) (And.intro hri.drew (hold.trans (((Below.refl _ wc).drew).mono hold.size)))); clear hd hri hold
            have HG2 := Lib.hid hg2; clear hg2
            have HC := Lib.hid (Aft.start wc)
            have hsr : (r != r) = false := by simp
            have hso : (s2.off != s2.off) = false := by simp
            have hsp : (s2.ops != s2.ops) = false := by simp
            have hsw : ((s2.wet.length : Int) != (s2.wet.length : Int)) = false := by simp
            go_wp2_with fail
            refine wp_region_mix (Aft wc) [(0, true), (1, true), (2, true), (3, true), (4, true), (6, true), (7, true), (8, true), (9, true), (5, false), (10, true), (11, true), (12, true), (13, true), (15, true), (16, true), (17, true), (18, true), (19, true), (14, false), (20, true), (21, true), (22, true), (23, true), (25, true), (26, true), (27, true), (28, true), (24, false), (29, true), (30, true)] (by kernel_rfl) (by kernel_rfl) ?_
            simp only [pickP, List.filterMap_cons, List.filterMap_nil, List.getElem?_toArray, List.getElem?_cons_succ, List.getElem?_cons_zero, Option.map_some]
            repeat (apply mix_first; apply Exists.intro; refine ⟨fun m => ?_, HC.out, ?_⟩; · (go_big_quiet_step (fail); exact wpQuiet_nil rfl))
            refine mix_forced HC.out ?_
            obtain ⟨bs, bw, fS, fW, hdi⟩ := HT.out.1
            have HCL := Lib.hid (devOff_any hdi); clear hdi
            go_wp2_with fail
            refine HCL.out.mono ?_
            rintro e _ ⟨rfl, rfl⟩
            clear HCL
            go_wp2_with fail
            show mixC _ _ _ _ _ _ _
            repeat (apply mix_first; apply Exists.intro; refine ⟨fun m => ?_, HC.out, ?_⟩; · (go_big_quiet_step (fail); exact wpQuiet_nil rfl))
            refine mix_forced HC.out ?_
            obtain ⟨bs, bw, fS, fW, hdi⟩ := HT.out.1
            have HCL := Lib.hid (devPending_any hdi HG2.out.ok (by have := HG2.out.wl; omega)); clear hdi
            go_wp2_with fail
            refine HCL.out.mono ?_
            rintro e w5 ⟨rfl, hb⟩
            clear HCL
            have HCn := Lib.hid (Aft.keep _ _ HC.out hb); clear HC
            have HC := HCn; clear HCn
            have HTn := Lib.hid (And.intro (HT.out.1.below hb) (And.intro (HT.out.2.1.below hb) (HT.out.2.2.trans (hb.mono HT.out.2.2.size)))); clear HT hb
            have HT := HTn; clear HTn
            go_wp2_with fail
            show mixC _ _ _ _ _ _ _
            repeat (apply mix_first; apply Exists.intro; refine ⟨fun m => ?_, HC.out, ?_⟩; · (go_big_quiet_step (fail); exact wpQuiet_nil rfl))
            refine mix_forced HC.out ?_
            obtain ⟨bs, bw, fS, fW, hdi⟩ := HT.out.1
            have HCL := Lib.hid (devOps_any hdi); clear hdi
            go_wp2_with fail
            refine HCL.out.mono ?_
            rintro e _ ⟨rfl, rfl⟩
            clear HCL
            go_wp2_with fail
            show mixC _ _ _ _ _ _ _
            repeat (apply mix_first; apply Exists.intro; refine ⟨fun m => ?_, HC.out, ?_⟩; · (go_big_quiet_step (fail); exact wpQuiet_nil rfl))
            refine mix_nil HC.out ?_
            clear k1 k4 k5 HC hsr hso hsp hsw
            have hsz := HG2.out.sz
            go_wp2_with fail
            go_loopw [11] (fun av wi => ∃ a : Int, av = .int .i64 a ∧ -1 ≤ a ∧ a ≤ s2.size + 1 ∧ DevAt wi F bd s2 ∧ RefIn wi G br (.slice AS s2.size cS) (.slice AW s2.wet.length cW) s2 ∧ Below w.heap.size w wi) (fun av _ => (s2.size + 1 - intOf av).toNat)
            case atStart => exact ⟨-1, rfl, Int.le_refl _, by omega, HT.out.1, HT.out.2.1, HT.out.2.2⟩
            case round =>
              obtain ⟨a, rfl, ha0, ha1, hda, hri, hold⟩ := hrel
              have b0 := hri.box.cell 0
              simp at b0
              by_cases hla : a ≤ s2.size
              · obtain ⟨bs, bw, fS, fW, hdi⟩ := hda
                have HR := Lib.hid (devRead_any hdi HG2.out.ok (by have := HG2.out.wl; omega) a (by omega) (by omega))
                have HA := Lib.hid (And.intro (show DevAt wr F bd s2 from ⟨_, _, _, _, hdi⟩) (And.intro hri hold)); clear hdi hri hold HT
                have wa : IntKind.i64.wrap (a + 1) = a + 1 := IntWalk.i64_in _ (by omega)
                go_wp2_with fail
                refine HR.out.mono ?_
                rintro e w6 ⟨rfl, hb6⟩
                have HA6 := Lib.hid (And.intro (HA.out.1.below hb6) (And.intro (HA.out.2.1.below hb6) (HA.out.2.2.trans (hb6.mono HA.out.2.2.size)))); clear hb6 HA HR
                have HR := Lib.hid (refRead_any HA6.out.2.1 HG2.out.ok (by have := HG2.out.wl; omega) a (by omega) (by omega))
                go_wp2_with fail
                refine HR.out.mono ?_
                rintro e w7 ⟨rfl, hb7⟩
                have HA7 := Lib.hid (And.intro (HA6.out.1.below hb7) (And.intro (HA6.out.2.1.below hb7) (HA6.out.2.2.trans (hb7.mono HA6.out.2.2.size)))); clear hb7 HA6 HR b0
                generalize s2.read a = q
                go_wp2_with fail
                go_roundw
                case rel => exact ⟨a + 1, by go_num, by omega, by omega, HA7.out.1, HA7.out.2.1, HA7.out.2.2⟩
                case measure => simp [intOf]; omega
              · have HE := Lib.hid (And.intro hda (And.intro hri hold)); clear hda hri hold HT
                go_wp2_with fail
                go_roundw
                case rel => exact ⟨i + 1, s2, by omega, by go_num, ⟨F, G, HE.out.1, ⟨_, _, HE.out.2.1⟩, HX.out.1, HX.out.2.1, HX.out.2.2, HE.out.2.2⟩, HG2.out⟩
                case measure => simp [intOf]; omega
        · obtain rfl : i = n := by omega
          obtain ⟨F, G, hd, ⟨vS, vW, hri⟩, hdis, hlF, hlG, hold⟩ := ht
          obtain ⟨AS, cS, hvs, _⟩ := SlV_of_any hri.sure
          subst hvs
          have k0 : ∀ m : Held (Aft wo), (HeldW m).cell? ⟨br, 0, none⟩ = some (.slice AS s1.size cS) := fun m => (Aft.cell m hri.box.lt).trans (hri.box.cell 0)
          have HT := Lib.hid (And.intro (hd.below ((Below.refl _ wo).drew)) (hold.trans (((Below.refl _ wo).drew).mono hold.size))); clear hd hri hold hdis hlF hlG hgd
          have HC := Lib.hid (Aft.start wo)
          go_wp2_with fail
          refine wp_region_mix (Aft wo) [(0, true), (2, true), (3, true), (4, true), (5, true), (6, true), (1, false), (7, true), (8, true), (9, false), (10, true), (11, true)] (by kernel_rfl) (by kernel_rfl) ?_
          simp only [pickP, List.filterMap_cons, List.filterMap_nil, List.getElem?_toArray, List.getElem?_cons_succ, List.getElem?_cons_zero, Option.map_some]
          repeat (apply mix_first; apply Exists.intro; refine ⟨fun m => ?_, HC.out, ?_⟩; · (go_big_quiet_step (fail); exact wpQuiet_nil rfl))
          refine mix_forced HC.out ?_
          obtain ⟨bs, bw, fS, fW, hdi⟩ := HT.out.1
          have HCL := Lib.hid (devSize_any hdi); clear hdi
          go_wp2_with fail
          refine HCL.out.mono ?_
          rintro e _ ⟨rfl, rfl⟩
          clear HCL
          go_wp2_with fail
          show mixC _ _ _ _ _ _ _
          repeat (apply mix_first; apply Exists.intro; refine ⟨fun m => ?_, HC.out, ?_⟩; · (go_big_quiet_step (fail); exact wpQuiet_nil rfl))
          refine mix_forced HC.out ?_
          go_wp2_with fail
          refine (HLV.out _).mono ?_
          rintro e w9 ⟨rfl, hb⟩
          have HE := Lib.hid (HT.out.2.trans (hb.mono HT.out.2.size))
          have HC9 := Lib.hid (Aft.keep _ _ HC.out hb); clear hb
          go_wp2_with fail
          show mixC _ _ _ _ _ _ _
          repeat (apply mix_first; apply Exists.intro; refine ⟨fun m => ?_, HC9.out, ?_⟩; · (go_big_quiet_step (fail); exact wpQuiet_nil rfl))
          refine mix_nil HC9.out ?_
          clear k0
          go_wp2_with fail
          go_ret
          exact ⟨rfl, HE.out⟩
end Go.Proofs.Ytlogdionhgabdaa
