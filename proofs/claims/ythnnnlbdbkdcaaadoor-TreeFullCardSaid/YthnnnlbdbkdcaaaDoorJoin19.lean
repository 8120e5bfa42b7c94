/- Several texts, joined for the limit of sixty files; each one opens with its own comment. -/
import Derived.Test.YthnnnlbdbkdcaaaDoorJoin18
import Derived.Test.YthnnnlbdbkdcaaaDoorJoin2
import Derived.Test.YthnnnlbdbkdcaaaDoorChecked
import Derived.Test.YthnnnlbdbkdcaaaDoorJoin10
/- tree.may, Put, Drop. -/
set_option linter.unusedVariables false
set_option linter.unusedSimpArgs false
namespace Go.Proofs.YthnnnlbdbkdcaaaDoor
open Go Go.RowKit Go.Shelf
open Sw
/-- a node of data that came in -/
structure NdIn (n : Nd) : Prop where
  t0 : 0 ≤ n.time
  t1 : n.time < 4294967296
  size : n.data.size ≤ maxLen
set_option maxRecDepth 100000 in
set_option maxHeartbeats 8000000 in
theorem treeMay_any (w : World) (bt bm : Nat) (xs : List NE) (p : ByteArray) (n : Nd) (h : TreeAt w bt bm xs) (hn : xs.length ≤ 1000000) (hp : p.size ≤ 90000) (hu : (parentS p).size ≤ 90000) (hin : NdIn n) :
    Calls Tryd.prog 25 #[.pointer (some ⟨bt, 0, none⟩), .string p, .agg n.c] w fun e w' => e = .returned (.int .i64 (mayT xs p n)) ∧ Below w.heap.size w w' := by
  have HR := Lib.hid (right_any _ p (by omega) : Calls Tryd.prog 41 #[.string p] (w.alloc (.cells n.c 30)) fun e w' => e = .returned (.bool (rightL p.data.toList)) ∧ Below (w.alloc (.cells n.c 30)).heap.size (w.alloc (.cells n.c 30)) w')
  have HND := Lib.hid (fun W (hk : ¬ n.kind = 0) => nodeRight_any W n hk hin.t0 hin.t1 hin.size)
  have HPA := Lib.hid (fun W (h : TreeAt W bt bm xs) => treeParent_any W bt bm xs p h hn hp hu)
  have HHO := Lib.hid (fun W (h : TreeAt W bt bm xs) => treeHolds_any W bt bm xs p h hn hp)
  have HGE := Lib.hid (fun W (h : TreeAt W bt bm xs) => treeGet_any W bt bm xs p h hn hp)
  have HLE := Lib.hid (fun W (h : TreeAt W bt bm xs) => treeLen_any W bt bm xs h)
  have hb0 := (Below.refl w.heap.size w).alloc (Nat.le_refl _) (.cells n.c 30)
  have H0 := Lib.hid (And.intro hb0 (And.intro (Blk.new w 30 n.c) (h.below hb0))); clear hb0 h
  have hfld := nodeField0
  have HA := Lib.hid (show mayT xs p n = if rightL p.data.toList = false then 5 else if n.kind = 0 then 1 else if ¬ nodeR n = 0 then nodeR n else if ¬ parentT xs p = 0 then parentT xs p else if ¬ n.kind = 2 ∧ holdsT xs p = true then 8 else if (getT xs p).kind = 0 ∧ 500 ≤ xs.length then 4 else 0 from rfl)
  generalize mayT xs p n = ans at *
  generalize rightL p.data.toList = br at *
  generalize nodeR n = nr at *
  generalize parentT xs p = pr at *
  generalize holdsT xs p = ho at *
  generalize getT xs p = gn at *
  obtain ⟨m, hm⟩ : ∃ m, xs.length = m := ⟨_, rfl⟩
  rw [hm] at HA HLE hn
  have HM := Lib.hid hm; clear hm
  obtain ⟨kd, md, tm, dt⟩ := n
  unfold Nd.c at *
  simp only at HR HND H0 HA
  obtain ⟨gk, gm, gt, gd⟩ := gn
  simp only at HGE HA
  clear hin hp hu
  go_enter Tryd.func25, Tryd.ntmps25
  go_wp2_with fail
  refine HR.out.mono ?_
  rintro e w1 ⟨rfl, hb1⟩
  have hbw := H0.out.1.trans (hb1.mono H0.out.1.size)
  have hB := H0.out.2.1.below hb1 H0.out.2.1.lt
  have H1 := Lib.hid (And.intro hbw (And.intro hB (H0.out.2.2.below hb1))); clear hbw hB hb1 H0 HR
  have x0 := H1.out.2.1.cell 0
  have x1 := H1.out.2.1.cell 1
  have x2 := H1.out.2.1.cell 2
  have x3 := H1.out.2.1.cell 3
  simp at x0 x1 x2 x3
  cases br with
  | false =>
    go_wp2_with fail
    go_ret
    exact ⟨by rw [show ans = 5 from by simpa using HA.out]; rfl, H1.out.1⟩
  | true =>
    by_cases k0 : kd = 0
    · subst k0
      go_wp2_with fail
      go_ret
      exact ⟨by rw [show ans = 1 from by simpa using HA.out]; rfl, H1.out.1⟩
    · have e0 : (kd == 0) = false := by rw [beq_eq_false_iff_ne]; exact k0
      have HN := Lib.hid (HND.out w1 k0)
      have HK := Lib.hid k0; clear k0
      go_wp2_with fail
      refine HN.out.mono ?_
      rintro e w2 ⟨rfl, hb2⟩
      have hbw := H1.out.1.trans (hb2.mono H1.out.1.size)
      have hB := H1.out.2.1.below hb2 H1.out.2.1.lt
      have H2 := Lib.hid (And.intro hbw (And.intro hB (H1.out.2.2.below hb2))); clear hbw hB hb2 H1 HN x0 x1 x2 x3
      have x0 := H2.out.2.1.cell 0
      simp at x0
      by_cases hnr : nr = 0
      · subst hnr
        have HP2 := Lib.hid (HPA.out w2 H2.out.2.2)
        go_wp2_with fail
        refine HP2.out.mono ?_
        rintro e w3 ⟨rfl, hb3⟩
        have hbw := H2.out.1.trans (hb3.mono H2.out.1.size)
        have hB := H2.out.2.1.below hb3 H2.out.2.1.lt
        have H3 := Lib.hid (And.intro hbw (And.intro hB (H2.out.2.2.below hb3))); clear hbw hB hb3 H2 HP2 x0
        have x0 := H3.out.2.1.cell 0
        simp at x0
        by_cases hpr : pr = 0
        · subst hpr
          have HFIN : Hid (∀ (w4 : World) (a : Act) (K : Act → World → Prop), True) := Lib.hid (fun _ _ _ => trivial)
          by_cases k2 : kd = 2
          · subst k2
            have HG4 := Lib.hid (HGE.out w3 H3.out.2.2)
            go_wp2_with fail
            refine HG4.out.mono ?_
            rintro e w5 ⟨rfl, hb5⟩
            have H5 := Lib.hid (And.intro (H3.out.1.trans (hb5.mono H3.out.1.size)) (H3.out.2.2.below hb5)); clear hb5 H3 HG4
            by_cases g0 : gk = 0
            · subst g0
              have HL5 := Lib.hid (HLE.out w5 H5.out.2)
              by_cases hl : (500 : Int) ≤ m
              all_goals
                go_wp2_with fail
                refine HL5.out.mono ?_
                rintro e w6 ⟨rfl, rfl⟩
                go_wp2_with fail
                go_ret
                refine ⟨?_, H5.out.1⟩
                first | (rw [show ans = 4 from by simpa [HK.out, show 500 ≤ m by omega] using HA.out]; rfl) | (rw [show ans = 0 from by simpa [HK.out, show ¬ 500 ≤ m by omega] using HA.out]; rfl)
            · have g1 : (gk == 0) = false := by rw [beq_eq_false_iff_ne]; exact g0
              have HG0 := Lib.hid g0; clear g0
              go_wp2_with fail
              go_ret
              refine ⟨?_, H5.out.1⟩
              rw [show ans = 0 from by simpa [HK.out, HG0.out] using HA.out]; rfl
          · have e2 : (kd == 2) = false := by rw [beq_eq_false_iff_ne]; exact k2
            have e2' : (kd != 2) = true := by rw [bne_iff_ne]; exact k2
            have HK2 := Lib.hid k2; clear k2
            have HH3 := Lib.hid (HHO.out w3 H3.out.2.2)
            go_wp2_with fail
            refine HH3.out.mono ?_
            rintro e w4 ⟨rfl, hb4⟩
            have H4 := Lib.hid (And.intro (H3.out.1.trans (hb4.mono H3.out.1.size)) (H3.out.2.2.below hb4)); clear hb4 H3 HH3 x0
            cases ho with
            | true =>
              go_wp2_with fail
              go_ret
              refine ⟨?_, H4.out.1⟩
              rw [show ans = 8 from by simpa [HK.out, HK2.out] using HA.out]; rfl
            | false =>
              have HG4 := Lib.hid (HGE.out w4 H4.out.2)
              go_wp2_with fail
              refine HG4.out.mono ?_
              rintro e w5 ⟨rfl, hb5⟩
              have H5 := Lib.hid (And.intro (H4.out.1.trans (hb5.mono H4.out.1.size)) (H4.out.2.below hb5)); clear hb5 H4 HG4
              by_cases g0 : gk = 0
              · subst g0
                have HL5 := Lib.hid (HLE.out w5 H5.out.2)
                by_cases hl : (500 : Int) ≤ m
                all_goals
                  go_wp2_with fail
                  refine HL5.out.mono ?_
                  rintro e w6 ⟨rfl, rfl⟩
                  go_wp2_with fail
                  go_ret
                  refine ⟨?_, H5.out.1⟩
                  first | (rw [show ans = 4 from by simpa [HK.out, HK2.out, show 500 ≤ m by omega] using HA.out]; rfl) | (rw [show ans = 0 from by simpa [HK.out, HK2.out, show ¬ 500 ≤ m by omega] using HA.out]; rfl)
              · have g1 : (gk == 0) = false := by rw [beq_eq_false_iff_ne]; exact g0
                have HG0 := Lib.hid g0; clear g0
                go_wp2_with fail
                go_ret
                refine ⟨?_, H5.out.1⟩
                rw [show ans = 0 from by simpa [HK.out, HG0.out] using HA.out]; rfl
        · have p0 : (pr == 0) = false := by rw [beq_eq_false_iff_ne]; exact hpr
          have p1 : (pr != 0) = true := by rw [bne_iff_ne]; exact hpr
          have HPR := Lib.hid hpr; clear hpr
          go_wp2_with fail
          go_ret
          exact ⟨by rw [show ans = pr from by simpa [HK.out, HPR.out] using HA.out]; rfl, H3.out.1⟩
      · have p0 : (nr == 0) = false := by rw [beq_eq_false_iff_ne]; exact hnr
        have p1 : (nr != 0) = true := by rw [bne_iff_ne]; exact hnr
        have HNR := Lib.hid hnr; clear hnr
        go_wp2_with fail
        go_ret
        exact ⟨by rw [show ans = nr from by simpa [HK.out, HNR.out] using HA.out]; rfl, H2.out.1⟩
theorem putT_len (xs : List NE) (p : ByteArray) (n : Nd) : (putT xs p n).length ≤ xs.length + 1 := by
  unfold putT
  split
  · rw [put_len]; split <;> omega
  · omega
set_option maxRecDepth 100000 in
set_option maxHeartbeats 4000000 in
theorem treePut_any (w : World) (bt bm : Nat) (xs : List NE) (p : ByteArray) (n : Nd) (h : TreeAt w bt bm xs) (hn : xs.length + 1 ≤ 1000000) (hp : p.size ≤ 90000) (hu : (parentS p).size ≤ 90000) (hin : NdIn n) :
    Calls Tryd.prog 6 #[.pointer (some ⟨bt, 0, none⟩), .string p, .agg n.c] w fun e w' => e = .returned (.int .i64 (mayT xs p n)) ∧ TreeAt w' bt bm (putT xs p n) ∧ w.grownBy w' (some bm) := by
  have hb0 := (Below.refl w.heap.size w).alloc (Nat.le_refl _) (.cells n.c 30)
  have hT0 := h.below hb0
  have HMY := Lib.hid (treeMay_any _ bt bm xs p n hT0 (by omega) hp hu hin)
  have HPU := Lib.hid (fun W (h : SMapSN W bm xs) => srtPutSN_any W bm xs p n h hn hp)
  have H0 := Lib.hid (And.intro hb0 (And.intro (Blk.new w 30 n.c) hT0)); clear hb0 hT0 h
  have HPT := Lib.hid (show putT xs p n = if mayT xs p n = 0 then putN ordS p n xs else xs from rfl)
  generalize mayT xs p n = ans at *
  generalize putT xs p n = zs at *
  generalize inN ordS p xs = bi at *
  obtain ⟨kd, md, tm, dt⟩ := n
  unfold Nd.c at *
  simp only at HMY HPU H0
  clear hin hp hu
  go_enter Tryd.func6, Tryd.ntmps6
  have x0 := H0.out.2.1.cell 0
  go_wp2_with fail
  refine HMY.out.mono ?_
  rintro e w1 ⟨rfl, hb1⟩
  have hbw := H0.out.1.trans (hb1.mono H0.out.1.size)
  have hB := H0.out.2.1.below hb1 H0.out.2.1.lt
  have H1 := Lib.hid (And.intro hbw (And.intro hB (H0.out.2.2.below hb1))); clear hbw hB hb1 H0 HMY x0
  by_cases ha : ans = 0
  · subst ha
    have x0 := H1.out.2.1.cell 0
    have x1 := H1.out.2.1.cell 1
    have x2 := H1.out.2.1.cell 2
    have x3 := H1.out.2.1.cell 3
    have q0 := H1.out.2.2.box.cell 0
    simp at x0 x1 x2 x3 q0
    go_wp2_with fail
    go_still_tail 6, (by kernel_rfl)
    go_wp2_with fail
    have hT1 := H1.out.2.2.below ((Below.refl w1.heap.size w1).drew)
    refine (HPU.out w1.drew hT1.map).mono ?_
    rintro e w2 ⟨rfl, hm2, hg2⟩
    have HF := Lib.hid (And.intro (hT1.grown hm2 hg2) (grown_trans (grown_below (row := some bm) (H1.out.1.drew)) hg2))
    clear hm2 hg2 hT1 x0 x1 x2 x3 q0
    go_wp2_with fail
    go_ret
    exact ⟨rfl, by have := HPT.out; simp at this; rw [this]; exact HF.out.1, HF.out.2⟩
  · have a0 : (ans == 0) = false := by rw [beq_eq_false_iff_ne]; exact ha
    have HA := Lib.hid ha; clear ha
    go_wp2_with fail
    go_ret
    exact ⟨rfl, by have := HPT.out; simp [HA.out] at this; rw [this]; exact H1.out.2.2, grown_below H1.out.1⟩
theorem dropT_len (xs : List NE) (p : ByteArray) : (dropT xs p).length ≤ xs.length := by
  unfold dropT
  split
  · exact dropN_len p xs
  · omega
set_option maxRecDepth 100000 in
set_option maxHeartbeats 4000000 in
theorem treeDrop_any (w : World) (bt bm : Nat) (xs : List NE) (p : ByteArray) (h : TreeAt w bt bm xs) (hn : xs.length ≤ 1000000) (hp : p.size ≤ 90000) :
    Calls Tryd.prog 10 #[.pointer (some ⟨bt, 0, none⟩), .string p] w fun e w' => e = .returned (.int .i64 (whyDrop xs p)) ∧ TreeAt w' bt bm (dropT xs p) ∧ w.grownBy w' (some bm) := by
  have HHO := Lib.hid (fun W (h : TreeAt W bt bm xs) => treeHolds_any W bt bm xs p h hn hp)
  have HGE := Lib.hid (treeGet_any w bt bm xs p h hn hp)
  have HDR := Lib.hid (fun W (h : SMapSN W bm xs) => srtDropSN_any W bm xs p h hn hp)
  have H0 := Lib.hid h; clear h
  have hfld := nodeField0
  have HWY := Lib.hid (show whyDrop xs p = if (getT xs p).kind = 0 then 7 else if holdsT xs p = true then 8 else 0 from rfl)
  have HDT := Lib.hid (show dropT xs p = if whyDrop xs p = 0 then dropN ordS p xs else xs from rfl)
  generalize whyDrop xs p = ans at *
  generalize dropT xs p = zs at *
  generalize holdsT xs p = ho at *
  generalize getT xs p = gn at *
  generalize inN ordS p xs = bi at *
  obtain ⟨gk, gm, gt, gd⟩ := gn
  unfold Nd.c at *
  simp only at HGE HWY
  clear hp
  go_enter Tryd.func10, Tryd.ntmps10
  go_wp2_with fail
  refine HGE.out.mono ?_
  rintro e w1 ⟨rfl, hb1⟩
  have H1 := Lib.hid (And.intro hb1 (H0.out.below hb1)); clear hb1 H0 HGE
  by_cases g0 : gk = 0
  · subst g0
    have hans : ans = 7 := by simpa using HWY.out
    subst hans
    go_wp2_with fail
    go_ret
    exact ⟨rfl, by have := HDT.out; simp at this; rw [this]; exact H1.out.2, grown_below H1.out.1⟩
  · have e0 : (gk == 0) = false := by rw [beq_eq_false_iff_ne]; exact g0
    have HG0 := Lib.hid g0; clear g0
    have HH1 := Lib.hid (HHO.out w1 H1.out.2)
    go_wp2_with fail
    refine HH1.out.mono ?_
    rintro e w2 ⟨rfl, hb2⟩
    have H2 := Lib.hid (And.intro (H1.out.1.trans (hb2.mono H1.out.1.size)) (H1.out.2.below hb2)); clear hb2 H1 HH1
    cases ho with
    | true =>
      have hans : ans = 8 := by simpa [HG0.out] using HWY.out
      subst hans
      go_wp2_with fail
      go_ret
      exact ⟨rfl, by have := HDT.out; simp at this; rw [this]; exact H2.out.2, grown_below H2.out.1⟩
    | false =>
      have hans : ans = 0 := by simpa [HG0.out] using HWY.out
      subst hans
      have q0 := H2.out.2.box.cell 0
      simp at q0
      have HD2 := Lib.hid (HDR.out w2 H2.out.2.map)
      go_wp2_with fail
      refine HD2.out.mono ?_
      rintro e w3 ⟨rfl, hm3, hg3⟩
      have HF := Lib.hid (And.intro (H2.out.2.grown hm3 hg3) (grown_trans (grown_below (row := some bm) H2.out.1) hg3))
      clear hm3 hg3 q0
      go_wp2_with fail
      go_ret
      exact ⟨rfl, by have := HDT.out; simp at this; rw [this]; exact HF.out.1, HF.out.2⟩
end Go.Proofs.YthnnnlbdbkdcaaaDoor
/- The reference's Dec: a number's decimal digits. -/
set_option linter.unusedVariables false
set_option linter.unusedSimpArgs false
namespace Sw
def digB (m : Nat) : UInt8 := UInt8.ofNat (48 + m % 10)
def decG : Nat → Nat → List UInt8 → List UInt8
  | 0, _, s => s
  | f + 1, m, s => if m = 0 then s else decG f (m / 10) (digB m :: s)
/-- a number's digits -/
def decL (n : Nat) : List UInt8 := decG 20 (n / 10) [digB n]
def decS (n : Nat) : ByteArray := ⟨(decL n).toArray⟩
end Sw
namespace Go.Proofs.YthnnnlbdbkdcaaaDoor
open Go Go.RowKit
open Sw
theorem dig_conv (W : World) (m : Nat) : (convert 56 9 (.slice (some ⟨W.heap.size, 0, none⟩) 1 1)).run Tryd.prog (W.alloc (.cells #[.int .u8 (48 + (m : Int) % 10)] 5)) = .ok (.string ⟨#[digB m]⟩) (W.alloc (.cells #[.int .u8 (48 + (m : Int) % 10)] 5)) := by
  have hv : ((digB m).toNat : Int) = 48 + (m : Int) % 10 := by
    unfold digB
    rw [UInt8.toNat_ofNat_of_lt' (by show 48 + m % 10 < 256; omega)]
    omega
  have := run_convert_bytes_back (P := Tryd.prog) (W.alloc (.cells #[.int .u8 (48 + (m : Int) % 10)] 5)) 56 9 5 ⟨W.heap.size, 0, none⟩ 1 [digB m] Tryd.underlying56 Tryd.underlying5 Tryd.underlying9 (fun j hj => by
    have hj0 : j = 0 := by simpa using hj
    subst hj0
    rw [add_mk, (Blk.new W 5 #[.int .u8 (48 + (m : Int) % 10)]).cell]
    simp only [List.getElem_cons_zero, hv]
    rfl)
  exact this
set_option maxRecDepth 100000 in
set_option maxHeartbeats 2000000 in
theorem dec_any (w : World) (n : Nat) (hn : n < 100000) :
    Calls Tryd.prog 7 #[.int .i64 n] w fun e w' => e = .returned (.string (decS n)) ∧ Below w.heap.size w w' := by
  have hcv := dig_conv
  have hnn : ¬ ((n : Int) < 0) := by omega
  have hb0 := (Below.refl w.heap.size w).alloc (Nat.le_refl _) (.cells #[.int .u8 (48 + (n : Int) % 10)] 5)
  have H0 := Lib.hid hb0; clear hb0
  go_enter Tryd.func7, Tryd.ntmps7
  go_wp2_with fail
  go_loopw [0, 3] (fun mv sv wr => ∃ (f m : Nat) (s : List UInt8) (S : ByteArray), f ≤ 20 ∧ m < 10 ^ f ∧ m < 100000 ∧ mv = .int .i64 m ∧ sv = .string S ∧ (S.data.toList = s ∧ s.length ≤ 21 - f) ∧ decG f m s = decL n ∧ Below w.heap.size w wr) (fun mv _ _ => (intOf mv).toNat)
  case atStart => exact ⟨20, n / 10, [digB n], _, Nat.le_refl _, by omega, by omega, by go_num, rfl, ⟨rfl, by simp⟩, rfl, H0.out⟩
  case round =>
    obtain ⟨f, m, s, S, hf, hm, hm5, rfl, rfl, ⟨hS, hsl⟩, hd, hb⟩ := hrel
    have hSz : S.size ≤ 21 := by rw [← ByteArray.size_data, ← Array.length_toList, hS]; omega
    have HS := Lib.hid hS; clear hS
    by_cases h0 : m = 0
    · subst h0
      have hd' : s = decL n := by
        rw [← hd]
        cases f with
        | zero => rfl
        | succ f => unfold decG; rw [if_pos rfl]
      have HF := Lib.hid (And.intro hd' hb); clear hd hd' hb hm
      go_wp2_with fail
      go_ret
      exact ⟨by unfold decS; rw [← HF.out.1, ← HS.out]; rfl, HF.out.2⟩
    · cases f with
      | zero => simp at hm; omega
      | succ f =>
        have hd2 : decG f (m / 10) (digB m :: s) = decL n := by rw [← hd]; conv => rhs; unfold decG; rw [if_neg h0]
        have hmp : (0 : Int) < m := by omega
        have hm10 : m / 10 < 10 ^ f := by rw [Nat.pow_succ] at hm; omega
        have HF := Lib.hid (And.intro hd2 (And.intro hm10 (hb.alloc hb.size (.cells #[.int .u8 (48 + (m : Int) % 10)] 5)))); clear hd hd2 hb hm hm10
        go_wp2_with fail
        go_roundw
        case rel => exact ⟨f, m / 10, digB m :: s, _, by omega, HF.out.2.1, by omega, by go_num, rfl, ⟨by simp [HS.out], by simp only [List.length_cons]; omega⟩, HF.out.1, HF.out.2.2⟩
        case measure => simp [intOf]; omega
end Go.Proofs.YthnnnlbdbkdcaaaDoor
/- Plain laws of SortedAlike: rows that rise are told by their members; what is put in any order stands alike. -/
set_option linter.unusedVariables false
set_option linter.unusedSimpArgs false
namespace Sw
section
variable {κ ν : Type} {c : κ → κ → Int}
theorem up_ext (hO : Ord3 c) : ∀ (l m : List (κ × ν)), Up c l → Up c m → (∀ x, x ∈ l ↔ x ∈ m) → l = m
  | [], m, _, _, h => by
    cases m with
    | nil => rfl
    | cons e m => exact absurd ((h e).2 (List.mem_cons_self ..)) (by simp)
  | a :: l, [], _, _, h => absurd ((h a).1 (List.mem_cons_self ..)) (by simp)
  | a :: l, b :: m, hl, hm, h => by
    have hab : a = b := by
      have h1 := (h a).1 (List.mem_cons_self ..)
      have h2 := (h b).2 (List.mem_cons_self ..)
      rw [List.mem_cons] at h1 h2
      rcases h1 with h1 | h1
      · exact h1
      · rcases h2 with h2 | h2
        · exact h2.symm
        · have e1 := hm.head a h1
          have e2 := hl.head b h2
          have := hO.neg a.1 b.1
          omega
    subst hab
    congr 1
    refine up_ext hO l m hl.tail hm.tail fun x => ?_
    have hx := h x
    rw [List.mem_cons, List.mem_cons] at hx
    constructor
    · intro hm'
      rcases hx.1 (.inr hm') with e | e
      · subst e
        have := hl.head _ hm'
        have := hO.self x.1
        omega
      · exact e
    · intro hm'
      rcases hx.2 (.inr hm') with e | e
      · subst e
        have := hm.head _ hm'
        have := hO.self x.1
        omega
      · exact e
/-- all of a row, put one behind another -/
def putL (c : κ → κ → Int) (l : List (κ × ν)) : List (κ × ν) := l.foldl (fun m e => putN c e.1 e.2 m) []
theorem putL_snoc (l : List (κ × ν)) (e : κ × ν) : putL c (l ++ [e]) = putN c e.1 e.2 (putL c l) := by
  unfold putL
  rw [List.foldl_append]
  rfl
/-- keys that differ -/
def Unlike (l : List (κ × ν)) : Prop := l.Pairwise fun a b => a.1 ≠ b.1
theorem put_new (hO : Ord3 c) (k : κ) (v : ν) (l : List (κ × ν)) (hu : Up c l) (hk : ∀ x ∈ l, x.1 ≠ k) : (∀ x, x ∈ putN c k v l ↔ x = (k, v) ∨ x ∈ l) ∧ (putN c k v l).length = l.length + 1 := by
  have hin : inN c k l = false := by
    cases h : inN c k l with
    | false => rfl
    | true =>
      exfalso
      have hlt := inN_lt hO h
      rw [inN_at hO hlt, decide_eq_true_eq] at h
      exact hk _ (List.getElem_mem hlt) (hO.zero _ _ h)
  constructor
  · intro x
    rw [put_miss k v l hin]
    have ht : x ∈ l ↔ x ∈ l.take (lbN c k l) ∨ x ∈ l.drop (lbN c k l) := by
      rw [← List.mem_append, List.take_append_drop]
    rw [ht, List.mem_append, List.mem_cons]
    constructor
    · rintro (h | h | h)
      · exact .inr (.inl h)
      · exact .inl h
      · exact .inr (.inr h)
    · rintro (h | h | h)
      · exact .inr (.inl h)
      · exact .inl h
      · exact .inr (.inr h)
  · rw [put_len, hin]; rfl
/-- what is put of unlike keys: it rises, and has these members -/
theorem putL_all (hO : Ord3 c) : ∀ n (l : List (κ × ν)), l.length = n → Unlike l → Up c (putL c l) ∧ (∀ x, x ∈ putL c l ↔ x ∈ l) ∧ (putL c l).length = l.length
  | 0, l, hl, _ => by
    obtain rfl : l = [] := List.length_eq_zero_iff.1 hl
    exact ⟨List.Pairwise.nil, fun x => Iff.rfl, rfl⟩
  | n + 1, l, hl, hu => by
    have hne : l ≠ [] := by intro e; subst e; simp at hl
    obtain ⟨r, e, rfl⟩ : ∃ r e, l = r ++ [e] := ⟨l.dropLast, l.getLast hne, (List.dropLast_concat_getLast hne).symm⟩
    unfold Unlike at hu
    rw [List.pairwise_append] at hu
    obtain ⟨h1, h2, h3⟩ := putL_all hO n r (by simpa using hl) hu.1
    rw [putL_snoc]
    have hk : ∀ x ∈ putL c r, x.1 ≠ e.1 := fun x hx => hu.2.2 x ((h2 x).1 hx) e (List.mem_singleton.2 rfl)
    obtain ⟨h4, h5⟩ := put_new hO e.1 e.2 _ h1 hk
    refine ⟨put_up hO _ _ _ h1, fun x => ?_, ?_⟩
    · rw [h4, h2, List.mem_append, List.mem_singleton]
      exact Or.comm
    · rw [h5, h3]; simp
theorem Unlike.rev {l : List (κ × ν)} (h : Unlike l) : Unlike l.reverse := by
  unfold Unlike at *
  rw [List.pairwise_reverse]
  exact h.imp fun h => Ne.symm h
theorem putL_alike (hO : Ord3 c) {l : List (κ × ν)} (h : Unlike l) : putL c l.reverse = putL c l := by
  obtain ⟨a1, a2, _⟩ := putL_all hO _ l rfl h
  obtain ⟨b1, b2, _⟩ := putL_all hO _ l.reverse rfl h.rev
  refine up_ext hO _ _ b1 a1 fun x => ?_
  rw [a2, b2, List.mem_reverse]
/-- the first of what is left is dropped -/
theorem drop_first (hO : Ord3 c) (l : List (κ × ν)) (j : Nat) (hj : j < l.length) : inN c (l[j]'hj).1 (l.drop j) = true ∧ dropN c (l[j]'hj).1 (l.drop j) = l.drop (j + 1) := by
  have hd : l.drop j = l[j] :: l.drop (j + 1) := List.drop_eq_getElem_cons hj
  have h0 := hO.self (l[j]'hj).1
  rw [hd]
  unfold inN dropN
  rw [if_neg (by omega), if_neg (by omega), if_pos h0, decide_eq_true h0]
  exact ⟨rfl, rfl⟩
/-- a row whose keys differ, found one by one -/
theorem unlike_of {l : List (κ × ν)} (h : ∀ j (hj : j < l.length) k (hk : k < j), (l[k]'(by omega)).1 ≠ (l[j]'hj).1) : Unlike l := by
  unfold Unlike
  rw [List.pairwise_iff_getElem]
  intro i j hi hj hij
  exact h j hj i hij
theorem putL_le : ∀ (l m : List (κ × ν)), (l.foldl (fun m e => putN c e.1 e.2 m) m).length ≤ m.length + l.length
  | [], m => by simp
  | e :: l, m => by
    rw [List.foldl_cons]
    have h1 := putL_le l (putN c e.1 e.2 m)
    have h2 := put_len (c := c) e.1 e.2 m
    have h3 : (putN c e.1 e.2 m).length ≤ m.length + 1 := by rw [h2]; split <;> omega
    simp only [List.length_cons]
    omega
theorem putL_length (l : List (κ × ν)) : (putL c l).length ≤ l.length := by
  have := putL_le (c := c) l []
  unfold putL
  simpa using this
/-- the keys of a row are dropped, one behind another -/
def dropA (c : κ → κ → Int) (pre xs : List (κ × ν)) : List (κ × ν) := pre.foldl (fun m e => dropN c e.1 m) xs
theorem dropA_snoc (pre xs : List (κ × ν)) (x : κ × ν) : dropA c (pre ++ [x]) xs = dropN c x.1 (dropA c pre xs) := by
  unfold dropA
  rw [List.foldl_append]
  rfl
theorem dropA_len : ∀ (pre xs : List (κ × ν)), (dropA c pre xs).length ≤ xs.length
  | [], xs => Nat.le_refl _
  | e :: pre, xs => by
    unfold dropA
    rw [List.foldl_cons]
    exact Nat.le_trans (dropA_len pre _) (dropN_len e.1 xs)
theorem dropA_take (hO : Ord3 c) (xs : List (κ × ν)) : ∀ j, j ≤ xs.length → dropA c (xs.take j) xs = xs.drop j
  | 0, _ => by simp [dropA]
  | j + 1, h => by
    rw [List.take_succ_eq_append_getElem h, dropA_snoc, dropA_take hO xs j (by omega)]
    exact (drop_first hO xs j h).2
theorem dropA_all (hO : Ord3 c) (xs : List (κ × ν)) : dropA c xs xs = [] := by
  have := dropA_take hO xs xs.length (Nat.le_refl _)
  rwa [List.take_length, List.drop_length] at this
/-- what is told is there to be dropped -/
theorem dropA_in (hO : Ord3 c) (xs pre : List (κ × ν)) (x : κ × ν) (h : (pre ++ [x]) <+: xs) : inN c x.1 (dropA c pre xs) = true := by
  obtain ⟨r, rfl⟩ := h
  have hj : pre.length < ((pre ++ [x]) ++ r).length := by simp
  have h1 := dropA_take hO ((pre ++ [x]) ++ r) pre.length (by omega)
  have h2 := (drop_first hO ((pre ++ [x]) ++ r) pre.length hj).1
  have h3 : ((pre ++ [x]) ++ r).take pre.length = pre := by rw [List.append_assoc]; exact List.take_left
  rw [h3] at h1
  rw [h1]
  simpa using h2
end
end Sw
