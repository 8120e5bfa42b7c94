/- Several texts, joined for the limit of sixty files; each one opens with its own comment. -/
import Derived.Test.YtmpgmgjokliceaaGreatDoorJoin28
import Derived.Test.YtmpgmgjokliceaaGreatDoorJoin39
import Derived.Test.YtmpgmgjokliceaaGreatDoorJoin41
import Derived.Test.YtmpgmgjokliceaaGreatDoorJoin38
import Derived.Test.YtmpgmgjokliceaaGreatDoorJoin1
import Derived.Test.YtmpgmgjokliceaaGreatDoorJoin16
/- PlanWhole: what is put as a whole at a path is there as the one tree has it, or as the other one has, wherever the power goes. -/
set_option linter.unusedVariables false
set_option linter.unusedSimpArgs false
namespace Go.Proofs.YtmpgmgjokliceaaGreatDoor
open Go Go.RowKit
open Sw
theorem slv_oneS {w : World} {b : Nat} {g : ByteArray} (h : Blk w b 9 #[.string g]) : SlV w 1 sE (.slice (some ⟨b, 0, none⟩) 1 1) [g] :=
  ⟨some ⟨b, 0, none⟩, 1, rfl, by simp, by unfold maxLen; omega, fun _ => ⟨b, 0, rfl, h.lt, fun i hi j hj => by
    have hi0 : i = 0 := by simpa using hi
    subst hi0
    rw [h.cell]
    simp [sE]⟩⟩
theorem sameN_refl (l : List NE) : sameN l l = true := by
  induction l with
  | nil => rfl
  | cons x l ih => simp [sameN, alikeN, ih]
set_option maxRecDepth 100000 in
set_option maxHeartbeats 16000000 in
theorem planWhole_main (w : World) (v1 v2 : Value) (g : ByteArray) (f : Int) (xs ys : List NE) (g1 : SlV w 5 eCSN v1 xs) (g2 : SlV w 5 eCSN v2 ys) (hx : ∀ x ∈ xs, x.1.size ≤ maxLen ∧ NdIn x.2) (hy : ∀ x ∈ ys, x.1.size ≤ maxLen ∧ NdIn x.2) (hf0 : 0 ≤ f) (hf1 : f < 18446744073709551616) :
    Calls Tryz.prog 4 #[.agg #[v1, v2], .string g, .int .u64 f] w fun e w' => e = .returned (.bool true) ∧ Below w.heap.size w w' := by
  obtain ⟨W0, hW0⟩ : ∃ W, w.alloc (.cells #[v1, v2] 23) = W := ⟨_, rfl⟩
  obtain ⟨W, hW⟩ : ∃ W, W0.alloc (.cells #[.string g] 9) = W := ⟨_, rfl⟩
  obtain ⟨nb0, hnb0⟩ : ∃ n, W0.heap.size = n := ⟨_, rfl⟩
  have hb00 : Below w.heap.size w W0 := by rw [← hW0]; exact (Below.refl _ w).alloc (Nat.le_refl _) _
  have hB00 : Blk W0 w.heap.size 23 #[v1, v2] := by rw [← hW0]; exact Blk.new _ _ _
  have hb0W : Below W0.heap.size W0 W := by rw [← hW]; exact (Below.refl _ W0).alloc (Nat.le_refl _) _
  have hb0 : Below w.heap.size w W := hb00.trans (hb0W.mono hb00.size)
  have hB0 : Blk W w.heap.size 23 #[v1, v2] := hB00.below hb0W hB00.lt
  have hG0 : Blk W nb0 9 #[.string g] := by rw [← hW, ← hnb0]; exact Blk.new _ _ _
  have HL := Lib.hid (light32_any W v1 v2 (.slice (some ⟨nb0, 0, none⟩) 1 1) xs ys [g] (g1.below hb0 (Nat.le_refl _)) (g2.below hb0 (Nat.le_refl _)) (slv_oneS hG0) hx hy)
  have HT1 := Lib.hid (fun W' (hb : Below w.heap.size w W') (h1 : xs.length ≤ 15) (h2 : ∀ e ∈ xs, SmallE e) (h3 : TI xs) => treeOf_any W' v1 xs (g1.below hb (Nat.le_refl _)) (by omega) (fun x hx' => ⟨by have := (h2 x hx').1; omega, (hx x hx').2⟩) h3)
  have HT2 := Lib.hid (fun W' (hb : Below w.heap.size w W') (h1 : ys.length ≤ 15) (h2 : ∀ e ∈ ys, SmallE e) (h3 : TI ys) => treeOf_any W' v2 ys (g2.below hb (Nat.le_refl _)) (by omega) (fun x hx' => ⟨by have := (h2 x hx').1; omega, (hy x hx').2⟩) h3)
  have HF := Lib.hid (fun W' (hb : Below w.heap.size w W') (h1 : xs.length ≤ 15) (h2 : ∀ e ∈ xs, SmallE e) (h3 : TI xs) => filled_any W' v1 xs (g1.below hb (Nat.le_refl _)) (by omega) h3 (fun x hx' => ⟨by have := (h2 x hx').1; omega, (hx x hx').2, (h2 x hx').2⟩))
  have x0 := hB00.cell 0
  have x1 := hB00.cell 1
  simp only [List.getElem?_toArray, List.getElem?_cons_succ, List.getElem?_cons_zero] at x0 x1
  have HB := Lib.hid (And.intro hb0 hB0)
  have HW := Lib.hid hW0
  have HI := Lib.hid (And.intro hx hy)
  obtain ⟨A1, c1, rfl, _, _, _⟩ := g1
  obtain ⟨A2, c2, rfl, _, _, _⟩ := g2
  obtain ⟨n1, hn1⟩ : ∃ n, xs.length = n := ⟨_, rfl⟩
  obtain ⟨n2, hn2⟩ : ∃ n, ys.length = n := ⟨_, rfl⟩
  have HN := Lib.hid (And.intro hn1 hn2)
  rw [hn1, hn2] at HW HB HL
  rw [hn1] at x0 HT1 HF
  rw [hn2] at x1 HT2
  rw [hn1, hn2]
  clear hb0 hB0 hG0 hW0 hb00 hB00 hb0W hx hy hn1 hn2
  go_enter Tryz.func4, Tryz.ntmps4
  go_upto_region 1 with fail
  rw [HW.out]
  go_wp2_with fail
  clear hW hnb0
  refine HL.out.mono ?_
  rintro e w1 ⟨⟨R, rfl, hR⟩, hb1⟩
  have hB1 := HB.out.2.below hb1 HB.out.2.lt
  have H1 := Lib.hid (And.intro (HB.out.1.trans (hb1.mono HB.out.1.size)) (And.intro hB1 hR))
  have y0 := hB1.cell 0
  simp only [List.getElem?_toArray, List.getElem?_cons_succ, List.getElem?_cons_zero] at y0
  clear hb1 hB1 hR HL x0 x1
  cases R with
  | false =>
    go_wp2_with fail
    refine (lives32_any _).mono ?_
    rintro e w2 ⟨rfl, hb2⟩
    have H2 := Lib.hid (H1.out.1.trans (hb2.mono H1.out.1.size)); clear hb2
    go_wp2_with fail
    go_ret
    exact ⟨rfl, H2.out⟩
  | true =>
    obtain ⟨⟨hxl, hxs, hxp⟩, ⟨hyl, hys, hyp⟩, hgz, -⟩ := H1.out.2.2 (by first | rfl | trivial)
    have HTX := Lib.hid (ti_of_puts (by rw [hxp] : (putsT [] xs).2 = xs))
    have HTY := Lib.hid (ti_of_puts (by rw [hyp] : (putsT [] ys).2 = ys))
    have HGZ := Lib.hid (show g.size ≤ 90000 by have := hgz g (List.mem_cons_self ..); omega)
    have HXZ := Lib.hid (show ∀ e ∈ xs, e.1.size ≤ 90000 ∧ NdIn e.2 ∧ e.2.data.size ≤ 500 from fun e he => ⟨by have := (hxs e he).1; omega, (HI.out.1 e he).2, (hxs e he).2⟩)
    have HYZ := Lib.hid (show ∀ e ∈ ys, e.1.size ≤ 90000 ∧ NdIn e.2 ∧ e.2.data.size ≤ 500 from fun e he => ⟨by have := (hys e he).1; omega, (HI.out.2 e he).2, (hys e he).2⟩)
    have HLL := Lib.hid (And.intro hxl hyl)
    have h1l : n1 ≤ 15 := by have := HN.out.1; omega
    have h2l : n2 ≤ 15 := by have := HN.out.2; omega
    have HT1b := Lib.hid (fun W' (hb : Below w.heap.size w W') => HT1.out W' hb h1l hxs HTX.out)
    have HT2b := Lib.hid (fun W' (hb : Below w.heap.size w W') => HT2.out W' hb h2l hys HTY.out)
    have HFb := Lib.hid (fun W' (hb : Below w.heap.size w W') => HF.out W' hb h1l hxs HTX.out)
    clear hxl hxs hxp hyl hys hyp hgz HT1 HT2 HF
    go_wp2_with fail
    refine (HT1b.out w1 H1.out.1).mono ?_
    rintro e w2 ⟨bt, bm, rfl, hT, -, -, hb2⟩
    have hB2 := H1.out.2.1.below hb2 H1.out.2.1.lt
    have H2 := Lib.hid (And.intro (H1.out.1.trans (hb2.mono H1.out.1.size)) (And.intro hB2 hT))
    have y1 := hB2.cell 1
    simp only [List.getElem?_toArray, List.getElem?_cons_succ, List.getElem?_cons_zero] at y1
    clear hb2 hT hB2 HT1b y0
    go_wp2_with fail
    refine (HT2b.out w2 H2.out.1).mono ?_
    rintro e w3 ⟨bt2, bm2, rfl, hT2, -, -, hb3⟩
    have hB3 := H2.out.2.1.below hb3 H2.out.2.1.lt
    have H3 := Lib.hid (And.intro (H2.out.1.trans (hb3.mono H2.out.1.size)) (And.intro (H2.out.2.2.below hb3) hT2))
    have z0 := hB3.cell 0
    simp only [List.getElem?_toArray, List.getElem?_cons_succ, List.getElem?_cons_zero] at z0
    clear hb3 hT2 HT2b y1 hB3
    go_wp2_with fail
    refine (HFb.out w3 H3.out.1).mono ?_
    rintro e w4 ⟨bd, btd, bmd, rfl, hD, hbd, hb4⟩
    have H4 := Lib.hid (And.intro (H3.out.1.trans (hb4.mono H3.out.1.size)) (And.intro (H3.out.2.1.below hb4) (And.intro (H3.out.2.2.below hb4) (And.intro hD (And.intro hbd hb4)))))
    clear hD hbd hb4 HFb z0
    have hcast : f % 20 < 20 := Int.emod_lt_of_pos _ (by omega)
    have hcast0 : 0 ≤ f % 20 := Int.emod_nonneg _ (by omega)
    have w20 : IntKind.i64.wrap (f % 20) = f % 20 := by rw [IntWalk.i64_in _ (by omega)]
    obtain ⟨k, hk⟩ : ∃ k, f % 20 = k := ⟨_, rfl⟩
    rw [hk] at hcast hcast0 w20
    have tm : f.tmod 20 = k := by rw [Int.tmod_eq_emod_of_nonneg hf0]; exact hk
    have HFU := Lib.hid (dirFuse_any w4 bd btd bmd ⟨-1, -1, n1, false, xs⟩ k H4.out.2.2.2.1)
    have hmax : max k (-1) = k := by omega
    simp only [hmax] at HFU
    have HK := Lib.hid (And.intro hcast hcast0)
    have HHK := Lib.hid (And.intro hk tm)
    clear hcast hcast0 hmax
    go_wp2_with fail
    refine HFU.out.mono ?_
    rintro e w5 ⟨rfl, hD5, hg5⟩
    have hb34 := H4.out.2.2.2.2.2
    have h35 : Below w3.heap.size w3 w5 := hb34.grown hg5 hb34.size (fun k hk => by cases hk; exact H4.out.2.2.2.2.1)
    have H5 := Lib.hid (And.intro (H3.out.1.trans (h35.mono H3.out.1.size)) (And.intro (H3.out.2.1.below h35) (And.intro (H3.out.2.2.below h35) (And.intro hD5 h35))))
    clear hD5 hg5 hb34 h35 HFU w20 hk tm
    obtain ⟨V, hV⟩ : ∃ V, w5.alloc (.cells #[.string g] 9) = V := ⟨_, rfl⟩
    obtain ⟨nb, hnb⟩ : ∃ n, w5.heap.size = n := ⟨_, rfl⟩
    have hba : Below w5.heap.size w5 V := by rw [← hV]; exact (Below.refl _ w5).alloc (Nat.le_refl _) _
    have hGV : Blk V nb 9 #[.string g] := by rw [← hV, ← hnb]; exact Blk.new _ _ _
    have HV := Lib.hid (And.intro (H5.out.1.trans (hba.mono H5.out.1.size)) (And.intro (H5.out.2.1.below hba) (And.intro (H5.out.2.2.1.below hba) (And.intro (H5.out.2.2.2.1.below hba) (H5.out.2.2.2.2.trans (hba.mono H5.out.2.2.2.2.size))))))
    have HPO := Lib.hid (planOf_any V bt bm bt2 bm2 (.slice (some ⟨nb, 0, none⟩) 1 1) [g] xs ys HV.out.2.1 HV.out.2.2.1 (slv_oneS hGV) (by have := HLL.out.1; omega) (by have := HLL.out.2; omega) (by simp) (fun e he => (HXZ.out e he).1) (fun e he => (HYZ.out e he).1) (by simpa using HGZ.out) (fun e he => (HXZ.out e he).2.1.size) (fun e he => (HYZ.out e he).2.1.size))
    obtain ⟨P, hP⟩ : ∃ P, planN xs ys (topsN [g]) = P := ⟨_, rfl⟩
    obtain ⟨D, hD⟩ : ∃ D, doN ⟨-1, k, n1, false, xs⟩ P = D := ⟨_, rfl⟩
    have hpw := plan_whole xs ys g k (by have := HK.out.2; omega) (by have := HK.out.1; omega) HTX.out HTY.out HLL.out.1 HLL.out.2 HXZ.out HYZ.out HGZ.out (D := D) (by rw [hP, HN.out.1]; exact hD)
    have HPW := Lib.hid hpw
    have hpi : ∀ t ∈ P, StepIn t := by rw [← hP]; exact planN_in xs ys (topsN [g]) HTY.out.up HLL.out.2 (fun e he => (HXZ.out e he).1) HYZ.out (fun p hp => by have := (List.mem_filter.1 hp).1; simp at this; rw [this]; exact HGZ.out)
    have hpl : P.length ≤ 62 := by
      rw [← hP]
      have h1 := planN_len xs ys (topsN [g])
      have h2 : (topsN [g]).length ≤ 1 := List.length_filter_le _ _
      have := HLL.out.1; have := HLL.out.2
      omega
    have HPI := Lib.hid (And.intro hpi hpl)
    rw [hP] at HPO
    have HD := Lib.hid hD
    clear hba hGV hP hD hpw hpi hpl
    go_wp2_with fail
    clear hV hnb
    refine HPO.out.mono ?_
    rintro e w6 ⟨o6, l6, rfl, ho6, hl6, hit6, hb6⟩
    have hD6 := HV.out.2.2.2.1.below hb6
    have h36 := HV.out.2.2.2.2.trans (hb6.mono HV.out.2.2.2.2.size)
    have hll : l6.length ≤ 62 := by have := congrArg List.length hl6; rw [List.length_map] at this; rw [this]; exact HPI.out.2
    have HDO := Lib.hid (planDo_any w6 bd btd bmd ⟨-1, k, n1, false, xs⟩ 15 15 o6 l6 hD6 ⟨by show -1 ≤ k; have := HK.out.2; omega, by show k ≤ _; have := HK.out.1; omega, by show (0 : Int) ≤ n1; omega, by show (n1 : Int) ≤ (15 : Nat); omega⟩ (by omega) ⟨HTX.out, HLL.out.1, fun e he => (HXZ.out e he).2.2, fun e he => (HXZ.out e he).2.1⟩ (by omega) (Lies.of_own ho6 eSt_len (by decide)) hit6 (fun t ht => HPI.out.1 t.1 (by rw [← hl6]; exact List.mem_map.2 ⟨t, ht, rfl⟩)))
    rw [hl6, HD.out] at HDO
    have H6 := Lib.hid h36
    obtain ⟨A6, c6, rfl, -, -, -⟩ := SlV_of_any ho6
    clear ho6 hl6 hit6 hb6 hD6 h36 hll HPO
    generalize l6.length = k6 at *
    go_wp2_with fail
    refine HDO.out.mono ?_
    rintro e w7 ⟨⟨dn, dw, rfl⟩, ⟨bt7, bm7, hD7⟩, hg7⟩
    have h37 : Below w3.heap.size w3 w7 := H6.out.grown hg7 H6.out.size (fun k hk => by cases hk; exact H4.out.2.2.2.2.1)
    have H7 := Lib.hid (And.intro (H3.out.1.trans (h37.mono H3.out.1.size)) (And.intro (H3.out.2.1.below h37) (And.intro (H3.out.2.2.below h37) hD7)))
    clear hD7 hg7 h37 HDO
    have HU1 := Lib.hid (fun W' (hb : Below w7.heap.size w7 W') => treeUnder_any W' bt bm xs g (H7.out.2.1.below hb) (by have := HLL.out.1; omega) HGZ.out)
    have HU2 := Lib.hid (fun W' (hb : Below w7.heap.size w7 W') => treeUnder_any W' bt2 bm2 ys g (H7.out.2.2.1.below hb) (by have := HLL.out.2; omega) HGZ.out)
    obtain ⟨m1, hm1⟩ : ∃ m, (undT g xs).length = m := ⟨_, rfl⟩
    obtain ⟨m2, hm2⟩ : ∃ m, (undT g ys).length = m := ⟨_, rfl⟩
    have HM := Lib.hid (And.intro hm1 hm2)
    clear hm1 hm2
    go_upto_region 8 with fail
    by_cases hz1 : m1 = 0
    · by_cases hz2 : m2 = 0
      · go_wp2_with fail
        refine (HU1.out w7 (Below.refl _ _)).mono ?_
        rintro e w8 ⟨r8, rfl, ho8, hb8⟩
        obtain ⟨A8, c8, rfl, -, -, -⟩ := SlV_of_any ho8
        have H8 := Lib.hid hb8
        rw [HM.out.1]
        subst hz1
        clear ho8 hb8
        go_wp2_with fail
        refine (HU2.out w8 H8.out).mono ?_
        rintro e w9 ⟨r9, rfl, ho9, hb9⟩
        obtain ⟨A9, c9, rfl, -, -, -⟩ := SlV_of_any ho9
        have H9 := Lib.hid (H8.out.trans (hb9.mono H8.out.size))
        rw [HM.out.2]
        clear ho9 hb9
        subst hz2
        go_wp2_with fail
        refine (dirTree_any w9 bd bt7 bm7 D (H7.out.2.2.2.below H9.out)).mono ?_
        rintro e w10 ⟨bt10, bm10, rfl, hT10, -, hb10⟩
        have H10 := Lib.hid (And.intro (H9.out.trans (hb10.mono H9.out.size)) hT10)
        clear hb10 hT10
        go_wp2_with fail
        refine (treeItems_any w10 bt10 bm10 D.xs H10.out.2 (by have := HPW.out.2.1; omega)).mono ?_
        rintro e w11 ⟨r11, rfl, ho11, hb11⟩
        have H11 := Lib.hid (And.intro (H10.out.1.trans (hb11.mono H10.out.1.size)) ho11.slv)
        clear hb11 ho11
        go_wp2_with fail
        refine (ref16Right_any w11 r11 D.xs H11.out.2 (by have := HPW.out.2.1; omega) (fun x hx => ⟨(HPW.out.2.2.1 x hx).1, (HPW.out.2.2.1 x hx).2.1⟩)).mono ?_
        rintro e w12 ⟨R12, rfl, hR12, hb12⟩
        have h12 : R12 = true := hR12.2 HPW.out.1
        subst h12
        have H12 := Lib.hid (H11.out.1.trans (hb12.mono H11.out.1.size))
        clear hb12 hR12
        go_wp2_with fail
        refine (lives32_any w12).mono ?_
        rintro e w13 ⟨rfl, hb13⟩
        have H13 := Lib.hid (H12.out.trans (hb13.mono H12.out.size))
        clear hb13
        go_wp2_with fail
        go_ret
        exact ⟨rfl, H7.out.1.trans (H13.out.mono H7.out.1.size)⟩
      · have hz2' : 0 < m2 := Nat.pos_of_ne_zero hz2
        clear hz2
        have HNE := Lib.hid (show ¬ (undT g xs = [] ∧ undT g ys = []) from fun h => by have := HM.out.2; rw [h.2] at this; simp at this; omega)
        go_wp2_with fail
        refine (HU1.out w7 (Below.refl _ _)).mono ?_
        rintro e w8 ⟨r8, rfl, ho8, hb8⟩
        obtain ⟨A8, c8, rfl, -, -, -⟩ := SlV_of_any ho8
        have H8 := Lib.hid hb8
        rw [HM.out.1]
        subst hz1
        clear ho8 hb8
        go_wp2_with fail
        refine (HU2.out w8 H8.out).mono ?_
        rintro e w9 ⟨r9, rfl, ho9, hb9⟩
        obtain ⟨A9, c9, rfl, -, -, -⟩ := SlV_of_any ho9
        have H9 := Lib.hid (H8.out.trans (hb9.mono H8.out.size))
        rw [HM.out.2]
        clear ho9 hb9
        clear HU2
        go_wp2_with fail
        refine (dirTree_any w9 bd bt7 bm7 D (H7.out.2.2.2.below H9.out)).mono ?_
        rintro e w10 ⟨bt10, bm10, rfl, hT10, -, hb10⟩
        have H10 := Lib.hid (And.intro (H9.out.trans (hb10.mono H9.out.size)) hT10)
        clear hb10 hT10
        go_wp2_with fail
        refine (treeUnder_any w10 bt10 bm10 D.xs g H10.out.2 (by have := HPW.out.2.1; omega) HGZ.out).mono ?_
        rintro e w11 ⟨r11, rfl, ho11, hb11⟩
        have H11 := Lib.hid (And.intro (H10.out.1.trans (hb11.mono H10.out.1.size)) ho11.slv)
        obtain ⟨A11, c11, rfl, -, -, -⟩ := SlV_of_any ho11
        clear hb11 ho11
        obtain ⟨m3, hm3⟩ : ∃ m, (undT g D.xs).length = m := ⟨_, rfl⟩
        rw [hm3] at H11 ⊢
        clear hm3
        go_wp2_with fail
        refine (HU1.out w11 H11.out.1).mono ?_
        rintro e w12 ⟨r12, rfl, ho12, hb12⟩
        have HS1 := Lib.hid (ref16Same_any w12 _ r12 (undT g D.xs) (undT g xs) (H11.out.2.below hb12 (Nat.le_refl _)) ho12.slv (undT_data (fun e he => (HPW.out.2.2.1 e he).2.1.size)) (undT_data (fun e he => (HXZ.out e he).2.1.size)))
        obtain ⟨A12, c12, rfl, -, -, -⟩ := SlV_of_any ho12
        have H12 := Lib.hid (And.intro (H11.out.1.trans (hb12.mono H11.out.1.size)) (H11.out.2.below hb12 (Nat.le_refl _)))
        clear hb12 ho12
        obtain ⟨S, hS⟩ : ∃ S, sameN (undT g D.xs) (undT g xs) = S := ⟨_, rfl⟩
        rw [hS, HM.out.1] at HS1
        rw [HM.out.1]
        go_wp2_with fail
        refine HS1.out.mono ?_
        rintro e w13 ⟨rfl, hb13⟩
        have H13 := Lib.hid (And.intro (H12.out.1.trans (hb13.mono H12.out.1.size)) (H12.out.2.below hb13 (Nat.le_refl _)))
        clear hb13 HS1
        cases S with
        | true =>
          clear hS
          go_wp2_with fail
          refine (lives32_any w13).mono ?_
          rintro e w14 ⟨rfl, hb14⟩
          have H14 := Lib.hid (H13.out.1.trans (hb14.mono H13.out.1.size))
          clear hb14
          go_wp2_with fail
          go_ret
          exact ⟨rfl, H7.out.1.trans (H14.out.mono H7.out.1.size)⟩
        | false =>
          have hds : undT g D.xs = undT g ys := by
            rcases HPW.out.2.2.2 with h | h | h
            · rw [h, sameN_refl] at hS; cases hS
            · exact h
            · exact absurd h HNE.out
          have HDS := Lib.hid hds
          clear hds hS
          have HU2b := Lib.hid (treeUnder_any w13 bt2 bm2 ys g (H7.out.2.2.1.below H13.out.1) (by have := HLL.out.2; omega) HGZ.out)
          go_wp2_with fail
          refine HU2b.out.mono ?_
          rintro e w14 ⟨r14, rfl, ho14, hb14⟩
          have HS2 := Lib.hid (ref16Same_any w14 _ r14 (undT g D.xs) (undT g ys) (H13.out.2.below hb14 (Nat.le_refl _)) ho14.slv (undT_data (fun e he => (HPW.out.2.2.1 e he).2.1.size)) (undT_data (fun e he => (HYZ.out e he).2.1.size)))
          rw [HDS.out, sameN_refl] at HS2
          obtain ⟨A14, c14, rfl, -, -, -⟩ := SlV_of_any ho14
          have H14 := Lib.hid (H13.out.1.trans (hb14.mono H13.out.1.size))
          rw [HM.out.2] at HS2 ⊢
          clear hb14 ho14 HU2b
          go_wp2_with fail
          refine HS2.out.mono ?_
          rintro e w15 ⟨rfl, hb15⟩
          have H15 := Lib.hid (H14.out.trans (hb15.mono H14.out.size))
          clear hb15 HS2
          go_wp2_with fail
          refine (lives32_any w15).mono ?_
          rintro e w16 ⟨rfl, hb16⟩
          have H16 := Lib.hid (H15.out.trans (hb16.mono H15.out.size))
          clear hb16
          go_wp2_with fail
          go_ret
          exact ⟨rfl, H7.out.1.trans (H16.out.mono H7.out.1.size)⟩
    · have hz1' : 0 < m1 := Nat.pos_of_ne_zero hz1
      clear hz1
      have HNE := Lib.hid (show ¬ (undT g xs = [] ∧ undT g ys = []) from fun h => by have := HM.out.1; rw [h.1] at this; simp at this; omega)
      go_wp2_with fail
      refine (HU1.out w7 (Below.refl _ _)).mono ?_
      rintro e w9 ⟨r8, rfl, ho8, hb8⟩
      obtain ⟨A8, c8, rfl, -, -, -⟩ := SlV_of_any ho8
      have H9 := Lib.hid hb8
      rw [HM.out.1]
      clear ho8 hb8
      clear HU2
      go_wp2_with fail
      refine (dirTree_any w9 bd bt7 bm7 D (H7.out.2.2.2.below H9.out)).mono ?_
      rintro e w10 ⟨bt10, bm10, rfl, hT10, -, hb10⟩
      have H10 := Lib.hid (And.intro (H9.out.trans (hb10.mono H9.out.size)) hT10)
      clear hb10 hT10
      go_wp2_with fail
      refine (treeUnder_any w10 bt10 bm10 D.xs g H10.out.2 (by have := HPW.out.2.1; omega) HGZ.out).mono ?_
      rintro e w11 ⟨r11, rfl, ho11, hb11⟩
      have H11 := Lib.hid (And.intro (H10.out.1.trans (hb11.mono H10.out.1.size)) ho11.slv)
      obtain ⟨A11, c11, rfl, -, -, -⟩ := SlV_of_any ho11
      clear hb11 ho11
      obtain ⟨m3, hm3⟩ : ∃ m, (undT g D.xs).length = m := ⟨_, rfl⟩
      rw [hm3] at H11 ⊢
      clear hm3
      go_wp2_with fail
      refine (HU1.out w11 H11.out.1).mono ?_
      rintro e w12 ⟨r12, rfl, ho12, hb12⟩
      have HS1 := Lib.hid (ref16Same_any w12 _ r12 (undT g D.xs) (undT g xs) (H11.out.2.below hb12 (Nat.le_refl _)) ho12.slv (undT_data (fun e he => (HPW.out.2.2.1 e he).2.1.size)) (undT_data (fun e he => (HXZ.out e he).2.1.size)))
      obtain ⟨A12, c12, rfl, -, -, -⟩ := SlV_of_any ho12
      have H12 := Lib.hid (And.intro (H11.out.1.trans (hb12.mono H11.out.1.size)) (H11.out.2.below hb12 (Nat.le_refl _)))
      clear hb12 ho12
      obtain ⟨S, hS⟩ : ∃ S, sameN (undT g D.xs) (undT g xs) = S := ⟨_, rfl⟩
      rw [hS, HM.out.1] at HS1
      rw [HM.out.1]
      go_wp2_with fail
      refine HS1.out.mono ?_
      rintro e w13 ⟨rfl, hb13⟩
      have H13 := Lib.hid (And.intro (H12.out.1.trans (hb13.mono H12.out.1.size)) (H12.out.2.below hb13 (Nat.le_refl _)))
      clear hb13 HS1
      cases S with
      | true =>
        clear hS
        go_wp2_with fail
        refine (lives32_any w13).mono ?_
        rintro e w14 ⟨rfl, hb14⟩
        have H14 := Lib.hid (H13.out.1.trans (hb14.mono H13.out.1.size))
        clear hb14
        go_wp2_with fail
        go_ret
        exact ⟨rfl, H7.out.1.trans (H14.out.mono H7.out.1.size)⟩
      | false =>
        have hds : undT g D.xs = undT g ys := by
          rcases HPW.out.2.2.2 with h | h | h
          · rw [h, sameN_refl] at hS; cases hS
          · exact h
          · exact absurd h HNE.out
        have HDS := Lib.hid hds
        clear hds hS
        have HU2b := Lib.hid (treeUnder_any w13 bt2 bm2 ys g (H7.out.2.2.1.below H13.out.1) (by have := HLL.out.2; omega) HGZ.out)
        go_wp2_with fail
        refine HU2b.out.mono ?_
        rintro e w14 ⟨r14, rfl, ho14, hb14⟩
        have HS2 := Lib.hid (ref16Same_any w14 _ r14 (undT g D.xs) (undT g ys) (H13.out.2.below hb14 (Nat.le_refl _)) ho14.slv (undT_data (fun e he => (HPW.out.2.2.1 e he).2.1.size)) (undT_data (fun e he => (HYZ.out e he).2.1.size)))
        rw [HDS.out, sameN_refl] at HS2
        obtain ⟨A14, c14, rfl, -, -, -⟩ := SlV_of_any ho14
        have H14 := Lib.hid (H13.out.1.trans (hb14.mono H13.out.1.size))
        rw [HM.out.2] at HS2 ⊢
        clear hb14 ho14 HU2b
        go_wp2_with fail
        refine HS2.out.mono ?_
        rintro e w15 ⟨rfl, hb15⟩
        have H15 := Lib.hid (H14.out.trans (hb15.mono H14.out.size))
        clear hb15 HS2
        go_wp2_with fail
        refine (lives32_any w15).mono ?_
        rintro e w16 ⟨rfl, hb16⟩
        have H16 := Lib.hid (H15.out.trans (hb16.mono H15.out.size))
        clear hb16
        go_wp2_with fail
        go_ret
        exact ⟨rfl, H7.out.1.trans (H16.out.mono H7.out.1.size)⟩
end Go.Proofs.YtmpgmgjokliceaaGreatDoor
/- The walk of PlanWhole in the statement's form. -/
set_option linter.unusedVariables false
set_option linter.unusedSimpArgs false
namespace Go.Proofs.YtmpgmgjokliceaaGreatDoor
open Go Go.ChangeShapes Go.WideShapes Go.ChangeAt Go.RowKit Go.Shelf
open Go.ChangeMaps (open_string shut_string)
open Sw
set_option maxRecDepth 100000 in
theorem planWhole_walk : Walks 4 Tryz.f4 := by
  intro H enc W base args ds ps hval hA hlt hsz
  rw [Tryz.params4] at hA hval
  obtain ⟨v0, v1, v2, d0, d1, d2, p0, p1, p2, rfl, rfl, rfl, h0, h1, h2⟩ := trodAll_three hA
  obtain ⟨w1, w2, xs, ys, rfl, g1, g2, j1, j2⟩ := open_items2D (hval 0 23 v0 rfl rfl) h0
  obtain ⟨a, rfl, rfl, rfl, wa⟩ := open_string Tryz.underlying9 (hval 1 9 v1 rfl rfl) h1
  obtain ⟨m, rfl, rfl, rfl, wm⟩ := open_int Tryz.underlying48 (hval 2 48 v2 rfl rfl) h2
  obtain ⟨m0, m1⟩ := bounds_u64 wm
  exact planWhole_main W w1 w2 a m xs ys g1 g2 (fun x hx => j1 x hx) (fun x hx => j2 x hx) m0 (by omega)
end Go.Proofs.YtmpgmgjokliceaaGreatDoor
