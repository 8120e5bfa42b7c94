/- Several texts, joined for the limit of sixty files; each one opens with its own comment. -/
import Derived.Test.YtjcbjocgachpjaaGreatDoorJoin28
import Derived.Test.YtjcbjocgachpjaaGreatDoorJoin31
import Derived.Test.YtjcbjocgachpjaaGreatDoorJoin15
import Derived.Test.YtjcbjocgachpjaaGreatDoorJoin1
/- Law 26's ArchiveBack. -/
set_option linter.unusedVariables false
set_option linter.unusedSimpArgs false
namespace Go.Proofs.YtjcbjocgachpjaaGreatDoor
open Go Go.RowKit
open Sw
/-- marks that trees agree on are read back -/
theorem okT_agree {xs ys : List NE} (hx : TI xs) (hd : ∀ e ∈ xs, NdIn e.2) : ∀ m ∈ agreeM (marksT xs) (marksT ys), OkT m := fun m hm => by
  have h1 := agree_ok hx m hm
  obtain ⟨e, he, rfl⟩ := List.mem_map.1 (List.mem_filter.1 hm).1
  refine ⟨h1, ⟨(hd e he).t0, (hd e he).t1⟩, ?_⟩
  unfold printN
  simp only
  split
  · have : ∀ l : List UInt8, ofS l < 4294967296 := fun l => by unfold ofS; omega
    have := this e.2.data.data.toList
    omega
  · omega
theorem twice_text (L : List MkE) : mkB (textML L) ++ (mkB (textML L)).extract 10 (mkB (textML L)).size = mkB (textML (L ++ L)) := by
  rw [← textML_twice]
  apply ByteArray.ext
  apply Array.ext'
  have h := ext_drop (mkB (textML L)) 10
  rw [data_mkB] at h
  simp only [ByteArray.data_append, Array.toList_append, h]
  simp [mkB]
theorem text_ten (L : List MkE) : 10 ≤ (mkB (textML L)).size := by
  rw [mkB_size]
  unfold textML
  simp [beginL]
set_option maxRecDepth 100000 in
set_option maxHeartbeats 16000000 in
theorem archBack_main (w : World) (v1 v2 : Value) (xs ys : List NE) (g1 : SlV w 5 eCSN v1 xs) (g2 : SlV w 5 eCSN v2 ys) (hx : ∀ x ∈ xs, x.1.size ≤ maxLen ∧ NdIn x.2) (hy : ∀ x ∈ ys, x.1.size ≤ maxLen ∧ NdIn x.2) :
    Calls Tryz.prog 3 #[v1, v2] w fun e w' => e = .returned (.bool true) ∧ Below w.heap.size w w' := by
  have HL1 := Lib.hid (light16_any w v1 xs g1 (fun e he => ⟨(hx e he).1, (hx e he).2.size⟩))
  have HL2 := Lib.hid (fun W' (hb : Below w.heap.size w W') => light16_any W' v2 ys (g2.below hb (Nat.le_refl _)) (fun e he => ⟨(hy e he).1, (hy e he).2.size⟩))
  have HR1 := Lib.hid (fun W' (hb : Below w.heap.size w W') (h1 : xs.length ≤ 500) (h2 : ∀ e ∈ xs, SmallE e) => ref16Right_any W' v1 xs (g1.below hb (Nat.le_refl _)) h1 (fun x hx' => ⟨by have := (h2 x hx').1; omega, (hx x hx').2⟩))
  have HR2 := Lib.hid (fun W' (hb : Below w.heap.size w W') (h1 : ys.length ≤ 500) (h2 : ∀ e ∈ ys, SmallE e) => ref16Right_any W' v2 ys (g2.below hb (Nat.le_refl _)) h1 (fun x hx' => ⟨by have := (h2 x hx').1; omega, (hy x hx').2⟩))
  have HT1 := Lib.hid (fun W' (hb : Below w.heap.size w W') (h1 : xs.length ≤ 30) (h2 : ∀ e ∈ xs, SmallE e) (h3 : TI xs) => treeOf_any W' v1 xs (g1.below hb (Nat.le_refl _)) (by omega) (fun x hx' => ⟨by have := (h2 x hx').1; omega, (hx x hx').2⟩) h3)
  have HT2 := Lib.hid (fun W' (hb : Below w.heap.size w W') (h1 : ys.length ≤ 30) (h2 : ∀ e ∈ ys, SmallE e) (h3 : TI ys) => treeOf_any W' v2 ys (g2.below hb (Nat.le_refl _)) (by omega) (fun x hx' => ⟨by have := (h2 x hx').1; omega, (hy x hx').2⟩) h3)
  have HI := Lib.hid (And.intro hx hy)
  obtain ⟨A1, c1, rfl, _, _, _⟩ := g1
  obtain ⟨A2, c2, rfl, _, _, _⟩ := g2
  obtain ⟨n1, hn1⟩ : ∃ n, xs.length = n := ⟨_, rfl⟩
  obtain ⟨n2, hn2⟩ : ∃ n, ys.length = n := ⟨_, rfl⟩
  have HN := Lib.hid (And.intro hn1 hn2)
  rw [hn1] at HL1 HR1 HT1 ⊢
  rw [hn2] at HL2 HR2 HT2 ⊢
  clear hx hy hn1 hn2
  have HLV := Lib.hid (fun W (hb : Below w.heap.size w W) => (archLives_any W).mono (fun e w' (h : e = .returned (.bool true) ∧ Below W.heap.size W w') => show e = .returned (.bool true) ∧ Below w.heap.size w w' from ⟨h.1, hb.trans (h.2.mono hb.size)⟩))
  go_enter Tryz.func3, Tryz.ntmps3
  go_wp2_with fail
  refine HL1.out.mono ?_
  rintro e w1 ⟨R1, rfl, hR1, hb1⟩
  have H1 := Lib.hid (And.intro hb1 hR1)
  clear hb1 hR1 HL1
  cases R1 with
  | false =>
    go_wp2_with fail
    refine (HLV.out w1 H1.out.1).mono ?_
    rintro e w2 ⟨rfl, hb2⟩
    have H2 := Lib.hid hb2; clear hb2
    go_wp2_with fail
    go_ret
    exact ⟨rfl, H2.out⟩
  | true =>
    go_wp2_with fail
    refine (HL2.out w1 H1.out.1).mono ?_
    rintro e w2 ⟨R2, rfl, hR2, hb2⟩
    have H2 := Lib.hid (And.intro (H1.out.1.trans (hb2.mono H1.out.1.size)) hR2)
    clear hb2 hR2 HL2
    cases R2 with
    | false =>
      go_wp2_with fail
      refine (HLV.out w2 H2.out.1).mono ?_
      rintro e w3 ⟨rfl, hb3⟩
      have H3 := Lib.hid hb3; clear hb3
      go_wp2_with fail
      go_ret
      exact ⟨rfl, H3.out⟩
    | true =>
      have k1 := H1.out.2 (by first | rfl | trivial)
      have k2 := H2.out.2 (by first | rfl | trivial)
      have HK := Lib.hid (And.intro k1 k2)
      clear k1 k2
      go_wp2_with fail
      refine (HR1.out w2 H2.out.1 (by have := HK.out.1.1; have := HN.out.1; omega) HK.out.1.2).mono ?_
      rintro e w3 ⟨R3, rfl, hR3, hb3⟩
      have H3 := Lib.hid (And.intro (H2.out.1.trans (hb3.mono H2.out.1.size)) hR3)
      clear hb3 hR3 HR1
      cases R3 with
      | false =>
        go_wp2_with fail
        refine (HLV.out w3 H3.out.1).mono ?_
        rintro e w4 ⟨rfl, hb4⟩
        have H4 := Lib.hid hb4; clear hb4
        go_wp2_with fail
        go_ret
        exact ⟨rfl, H4.out⟩
      | true =>
        go_wp2_with fail
        refine (HR2.out w3 H3.out.1 (by have := HK.out.2.1; have := HN.out.2; omega) HK.out.2.2).mono ?_
        rintro e w4 ⟨R4, rfl, hR4, hb4⟩
        have H4 := Lib.hid (And.intro (H3.out.1.trans (hb4.mono H3.out.1.size)) hR4)
        clear hb4 hR4 HR2
        cases R4 with
        | false =>
          go_wp2_with fail
          refine (HLV.out w4 H4.out.1).mono ?_
          rintro e w5 ⟨rfl, hb5⟩
          have H5 := Lib.hid hb5; clear hb5
          go_wp2_with fail
          go_ret
          exact ⟨rfl, H5.out⟩
        | true =>
          have hxp := H3.out.2.1 (by first | rfl | trivial)
          have hyp := H4.out.2.1 (by first | rfl | trivial)
          have HTX := Lib.hid (ti_of_puts (by rw [hxp] : (putsT [] xs).2 = xs))
          have HTY := Lib.hid (ti_of_puts (by rw [hyp] : (putsT [] ys).2 = ys))
          clear hxp hyp
          obtain ⟨L, hL⟩ : ∃ L, agreeM (marksT xs) (marksT ys) = L := ⟨_, rfl⟩
          have hokL : ∀ m ∈ L, OkT m := by rw [← hL]; exact okT_agree HTX.out (fun e he => (HI.out.1 e he).2)
          have hRL : rightM L [] = true := by rw [← hL]; exact right_agree HTX.out
          have hLl : L.length ≤ 30 := by
            rw [← hL]
            refine Nat.le_trans (List.length_filter_le _ _) ?_
            unfold marksT
            rw [List.length_map]
            have := HK.out.1.1
            have := HN.out.1
            omega
          have hcm : agreeM (marksT ys) (marksT xs) = L := by rw [agree_comm (marks_up HTY.out.up) (marks_up HTX.out.up), hL]
          have hsf : agreeM (marksT xs) (marksT xs) = marksT xs := agree_self (marks_up HTX.out.up)
          have htw : 0 < L.length → rightM (L ++ L) [] = false := fun h => right_twice (by rw [← hL]; exact agree_up (marks_up HTX.out.up)) h
          have hmn : (marksT xs).length = n1 := by unfold marksT; rw [List.length_map]; exact HN.out.1
          have hxz : ∀ zs, zs = xs ∨ zs = ys → zs.length ≤ 1000 ∧ ∀ e ∈ zs, e.2.data.size ≤ maxLen := fun zs hz => by
            rcases hz with rfl | rfl
            · exact ⟨by have := HK.out.1.1; have := HN.out.1; omega, fun e he => by have := (HK.out.1.2 e he).2; unfold maxLen; omega⟩
            · exact ⟨by have := HK.out.2.1; have := HN.out.2; omega, fun e he => by have := (HK.out.2.2 e he).2; unfold maxLen; omega⟩
          have HO := Lib.hid (fun V b1 m1 b2 m2 zs ts (hz : zs = xs ∨ zs = ys) (ht : ts = xs ∨ ts = ys) (k1 : TreeAt V b1 m1 zs) (k2 : TreeAt V b2 m2 ts) => archOf_any V b1 m1 b2 m2 zs ts k1 k2 (hxz zs hz).1 (hxz ts ht).1 (hxz zs hz).2 (hxz ts ht).2)
          have HP := Lib.hid (And.intro hokL (And.intro hRL (And.intro hLl (And.intro hcm (And.intro hsf (And.intro htw (And.intro hmn hL)))))))
          have hin : ∀ m ∈ L, MkInA m := fun m hm => okT_in (hokL m hm)
          have HIN := Lib.hid hin
          clear hokL hRL hLl hcm hsf htw hmn hxz hin
          obtain ⟨n, hn⟩ : ∃ n, L.length = n := ⟨_, rfl⟩
          have HLN := Lib.hid hn
          clear hn
          go_wp2_with fail
          refine (HT1.out w4 H4.out.1 (by have := HK.out.1.1; have := HN.out.1; omega) HK.out.1.2 HTX.out).mono ?_
          rintro e w5 ⟨bt, bm, rfl, hT, -, -, hb5⟩
          have H5 := Lib.hid (And.intro (H4.out.1.trans (hb5.mono H4.out.1.size)) hT)
          clear hb5 hT HT1
          go_wp2_with fail
          refine (HT2.out w5 H5.out.1 (by have := HK.out.2.1; have := HN.out.2; omega) HK.out.2.2 HTY.out).mono ?_
          rintro e w6 ⟨bt2, bm2, rfl, hT2, -, -, hb6⟩
          have H6 := Lib.hid (And.intro (H5.out.1.trans (hb6.mono H5.out.1.size)) (And.intro (H5.out.2.below hb6) hT2))
          clear hb6 hT2 HT2
          go_wp2_with fail
          refine (HO.out w6 bt bm bt2 bm2 xs ys (.inl rfl) (.inr rfl) H6.out.2.1 H6.out.2.2).mono ?_
          rintro e w7 ⟨r, rfl, ho7, hb7⟩
          rw [HP.out.2.2.2.2.2.2.2] at ho7
          have hs7 := ho7.slv
          obtain ⟨Ar, cr, rfl, _, _, _⟩ := id hs7
          rw [HLN.out] at hs7 ⊢
          obtain ⟨W7, hW7⟩ : ∃ W, w7.alloc (.cells #[.slice Ar n cr, .slice none 0 0] 32) = W := ⟨_, rfl⟩
          have hba7 : Below w7.heap.size w7 W7 := by rw [← hW7]; exact (Below.refl _ w7).alloc (Nat.le_refl _) _
          have hB7 : Blk W7 w7.heap.size 32 #[.slice Ar n cr, .slice none 0 0] := by rw [← hW7]; exact Blk.new _ _ _
          obtain ⟨B1, hB1⟩ : ∃ B, w7.heap.size = B := ⟨_, rfl⟩
          have hb67 := hb7.trans (hba7.mono hb7.size)
          rw [hB1] at hB7
          have H7 := Lib.hid (And.intro hW7 (And.intro (H6.out.1.trans (hb67.mono H6.out.1.size)) (And.intro (H6.out.2.1.below hb67) (And.intro (H6.out.2.2.below hb67) (And.intro hB7 (hs7.below hba7 (Nat.le_refl _)))))))
          clear hb7 hW7 hba7 hb67 ho7 hs7
          have x0 := hB7.cell 0
          have x1 := hB7.cell 1
          simp only [List.getElem?_toArray, List.getElem?_cons_succ, List.getElem?_cons_zero] at x0 x1
          clear hB7
          go_upto_region 6 with fail
          rw [H7.out.1]
          have hwr := archWrite_any W7 (.slice Ar n cr) (.slice none 0 0) L H7.out.2.2.2.2.2 (slv_nilM W7) (by have := HP.out.2.2.1; omega) HP.out.1
          unfold writeV at hwr
          rw [HP.out.2.1, if_pos rfl] at hwr
          have hrd := fun V => archRead_any V L (by have := HP.out.2.2.1; omega) HP.out.1
          have hrd2 := fun V => archRead_any V (L ++ L) (by rw [List.length_append]; have := HP.out.2.2.1; omega) (fun m hm => by
            rcases List.mem_append.1 hm with h | h
            · exact HP.out.1 m h
            · exact HP.out.1 m h)
          have htwt := twice_text L
          have hten := text_ten L
          obtain ⟨s, hs⟩ : ∃ s, mkB (textML L) = s := ⟨_, rfl⟩
          have hsl : s.size ≤ 40000 := by rw [← hs, mkB_size]; exact textML_max (by have := HP.out.2.2.1; omega) HP.out.1
          rw [hs] at hwr hrd htwt hten
          rw [← htwt] at hrd2
          have HWR := Lib.hid hwr
          have HRD := Lib.hid hrd
          have HRD2 := Lib.hid hrd2
          clear hwr hrd hrd2 htwt hs
          go_wp2_with fail
          refine HWR.out.mono ?_
          rintro e w8 ⟨rfl, hb8⟩
          have H8 := Lib.hid (And.intro (H7.out.2.1.trans (hb8.mono H7.out.2.1.size)) (And.intro (H7.out.2.2.1.below hb8) (And.intro (H7.out.2.2.2.1.below hb8) (And.intro (H7.out.2.2.2.2.1.below hb8 H7.out.2.2.2.2.1.lt) (H7.out.2.2.2.2.2.below hb8 (Nat.le_refl _))))))
          clear hb8 x0 x1 HWR
          go_wp2_with fail
          refine (HRD.out w8).mono ?_
          rintro e w9 ⟨hp9, hb9⟩
          unfold ReadPost at hp9
          rw [HP.out.2.1, if_pos rfl] at hp9
          obtain ⟨v, rfl, hs9⟩ := hp9
          obtain ⟨Av, cv, rfl, _, _, _⟩ := id hs9
          rw [HLN.out] at hs9 ⊢
          obtain ⟨W9, hW9⟩ : ∃ W, w9.alloc (.cells #[.slice Av n cv, .slice none 0 0] 32) = W := ⟨_, rfl⟩
          have hba9 : Below w9.heap.size w9 W9 := by rw [← hW9]; exact (Below.refl _ w9).alloc (Nat.le_refl _) _
          have hB9 : Blk W9 w9.heap.size 32 #[.slice Av n cv, .slice none 0 0] := by rw [← hW9]; exact Blk.new _ _ _
          have hb89 := hb9.trans (hba9.mono hb9.size)
          obtain ⟨B2, hB2⟩ : ∃ B, w9.heap.size = B := ⟨_, rfl⟩
          rw [hB2] at hB9
          have H9 := Lib.hid (And.intro hW9 (And.intro (H8.out.1.trans (hb89.mono H8.out.1.size)) (And.intro (H8.out.2.1.below hb89) (And.intro (H8.out.2.2.1.below hb89) (And.intro (H8.out.2.2.2.1.below hb89 H8.out.2.2.2.1.lt) (And.intro (H8.out.2.2.2.2.below hb89 (Nat.le_refl _)) (And.intro hB9 (hs9.below hba9 (Nat.le_refl _)))))))))
          clear hb9 hW9 hba9 hb89 hs9 hB9
          go_upto_region 8 with fail
          rw [H9.out.1]
          have k0 : ∀ m : Held (Aft W9), (HeldW m).cell? ⟨B2, 0, none⟩ = some (.slice Av n cv) := fun m => (Aft.cell m H9.out.2.2.2.2.2.2.1.lt).trans (H9.out.2.2.2.2.2.2.1.cell 0)
          have k1 : ∀ m : Held (Aft W9), (HeldW m).cell? ⟨B2, 1, none⟩ = some (.slice none 0 0) := fun m => (Aft.cell m H9.out.2.2.2.2.2.2.1.lt).trans (H9.out.2.2.2.2.2.2.1.cell 1)
          have k2 : ∀ m : Held (Aft W9), (HeldW m).cell? ⟨B1, 0, none⟩ = some (.slice Ar n cr) := fun m => (Aft.cell m H9.out.2.2.2.2.1.lt).trans (H9.out.2.2.2.2.1.cell 0)
          have k3 : ∀ m : Held (Aft W9), (HeldW m).cell? ⟨B1, 1, none⟩ = some (.slice none 0 0) := fun m => (Aft.cell m H9.out.2.2.2.2.1.lt).trans (H9.out.2.2.2.2.1.cell 1)
          have HC0 := Lib.hid (Aft.start W9)
          have HB0 := Lib.hid (show Below W9.heap.size W9 W9.drew from (Below.refl _ W9).drew)
          refine wp_region_mix (Aft W9) [(0, true), (1, true), (2, true), (3, true), (4, true), (5, true), (6, true), (7, true), (8, true), (9, false), (10, true), (11, true), (12, true), (13, true), (14, false), (15, true), (16, true), (17, true), (18, true), (19, true), (22, true), (23, true), (20, false), (21, true), (24, true), (25, true), (26, true), (27, true), (28, true), (30, true), (31, true), (29, false), (32, false), (33, true), (34, true)] (by kernel_rfl) (by kernel_rfl) ?_
          simp only [pickP, List.filterMap_cons, List.filterMap_nil, List.getElem?_toArray, List.getElem?_cons_succ, List.getElem?_cons_zero, Option.map_some]
          repeat (apply mix_first; apply Exists.intro; refine ⟨fun m => ?_, HC0.out, ?_⟩; · (go_big_quiet_step (fail); exact wpQuiet_nil rfl))
          refine mix_forced HC0.out ?_
          go_wp2_with fail
          refine (archSame_same W9.drew (.slice Av n cv) (.slice none 0 0) (.slice Ar n cr) (.slice none 0 0) L [] (H9.out.2.2.2.2.2.2.2.below HB0.out (Nat.le_refl _)) (slv_nilM _) (H9.out.2.2.2.2.2.1.below HB0.out (Nat.le_refl _)) (slv_nilM _)).mono ?_
          rintro e w10 ⟨rfl, hb10⟩
          have HC10 := Lib.hid (show Aft W9 w10 from Aft.keep _ _ HC0.out hb10)
          clear hb10
          go_wp2_with fail
          show mixC _ _ _ _ _ _ _
          repeat (apply mix_first; apply Exists.intro; refine ⟨fun m => ?_, HC10.out, ?_⟩; · (go_big_quiet_step (fail); exact wpQuiet_nil rfl))
          have hrt := archRight_any w10 (.slice Ar n cr) (.slice none 0 0) L [] (H9.out.2.2.2.2.2.1.below HC10.out (Nat.le_refl _)) (slv_nilM _) (by have := HP.out.2.2.1; omega) (by simp) HIN.out (fun m hm => by cases hm)
          rw [HP.out.2.1] at hrt
          have HRT := Lib.hid hrt
          clear hrt
          refine mix_forced HC10.out ?_
          go_wp2_with fail
          refine HRT.out.mono ?_
          rintro e w11 ⟨rfl, hb11⟩
          have HC11 := Lib.hid (show Aft W9 w11 from Aft.keep _ _ HC10.out hb11)
          clear hb11 HC10 HRT
          go_wp2_with fail
          show mixC _ _ _ _ _ _ _
          repeat (apply mix_first; apply Exists.intro; refine ⟨fun m => ?_, HC11.out, ?_⟩; · (go_big_quiet_step (fail); exact wpQuiet_nil rfl))
          refine mix_forced HC11.out ?_
          go_wp2_with fail
          refine (HO.out w11 bt bm bt bm xs xs (.inl rfl) (.inl rfl) (H9.out.2.2.1.below HC11.out) (H9.out.2.2.1.below HC11.out)).mono ?_
          rintro e w12 ⟨r2, rfl, ho12, hb12⟩
          rw [HP.out.2.2.2.2.1] at ho12
          obtain ⟨A12, c12, rfl, _, _, _⟩ := ho12.slv
          rw [HP.out.2.2.2.2.2.2.1]
          have HC12 := Lib.hid (show Aft W9 w12 from Aft.keep _ _ HC11.out hb12)
          clear hb12 HC11 ho12
          have hnn : ((n1 : Int) != n1) = false := by simp
          go_wp2_with fail
          show mixC _ _ _ _ _ _ _
          repeat (apply mix_first; apply Exists.intro; refine ⟨fun m => ?_, HC12.out, ?_⟩; · (go_big_quiet_step (fail); exact wpQuiet_nil rfl))
          refine mix_forced HC12.out ?_
          go_wp2_with fail
          refine (HO.out w12 bt2 bm2 bt bm ys xs (.inr rfl) (.inl rfl) (H9.out.2.2.2.1.below HC12.out) (H9.out.2.2.1.below HC12.out)).mono ?_
          rintro e w13 ⟨r3, rfl, ho13, hb13⟩
          rw [HP.out.2.2.2.1] at ho13
          have hs13 := ho13.slv
          have HC13 := Lib.hid (show Aft W9 w13 from Aft.keep _ _ HC12.out hb13)
          have HSM := Lib.hid (ref26Same_same w13 r3 (.slice Ar n cr) L hs13 (H9.out.2.2.2.2.2.1.below HC13.out (Nat.le_refl _)))
          clear hb13 HC12 ho13 hs13
          go_wp2_with fail
          show mixC _ _ _ _ _ _ _
          refine mix_forced HC13.out ?_
          go_wp2_with fail
          refine HSM.out.mono ?_
          rintro e w14 ⟨rfl, hb14⟩
          have HC14 := Lib.hid (show Aft W9 w14 from Aft.keep _ _ HC13.out hb14)
          clear hb14 HC13 HSM
          go_wp2_with fail
          show mixC _ _ _ _ _ _ _
          repeat (apply mix_first; apply Exists.intro; refine ⟨fun m => ?_, HC14.out, ?_⟩; · (go_big_quiet_step (fail); exact wpQuiet_nil rfl))
          refine mix_nil HC14.out ?_
          clear k0 k1 k2 k3
          have hB14 := H9.out.2.2.2.2.1.below HC14.out H9.out.2.2.2.2.1.lt
          have x0 := hB14.cell 0
          simp only [List.getElem?_toArray, List.getElem?_cons_zero] at x0
          have H14 := Lib.hid (H9.out.2.1.trans (HC14.out.mono H9.out.2.1.size))
          clear hB14
          by_cases h0 : 0 < n
          · have h0i : (0 : Int) < n := by omega
            have hmin : min (s.size : Int) 10 = 10 := by omega
            have hls : s.size + (s.extract 10 s.size).size ≤ 100000 := by rw [ByteArray.size_extract]; omega
            go_wp2_with fail
            refine (HRD2.out w14).mono ?_
            rintro e w15 ⟨hp15, hb15⟩
            unfold ReadPost at hp15
            rw [HP.out.2.2.2.2.2.1 (by rw [HLN.out]; exact h0), if_neg (by decide)] at hp15
            subst hp15
            have H15 := Lib.hid ((H14.out.trans (hb15.mono H14.out.size)).alloc (Nat.le_trans H14.out.size hb15.size) (.cells #[.slice none 0 0, .slice none 0 0] 32))
            clear hb15
            go_wp2_with fail
            refine (HLV.out _ H15.out).mono ?_
            rintro e w16 ⟨rfl, hb16⟩
            have H16 := Lib.hid hb16; clear hb16
            go_wp2_with fail
            go_ret
            exact ⟨rfl, H16.out⟩
          · have h0i : ¬ (0 : Int) < n := by omega
            go_wp2_with fail
            refine (HLV.out w14 H14.out).mono ?_
            rintro e w15 ⟨rfl, hb15⟩
            have H15 := Lib.hid hb15; clear hb15
            go_wp2_with fail
            go_ret
            exact ⟨rfl, H15.out⟩
end Go.Proofs.YtjcbjocgachpjaaGreatDoor
/- The walk of ArchiveBack in the statement's form. -/
set_option linter.unusedVariables false
set_option linter.unusedSimpArgs false
namespace Go.Proofs.YtjcbjocgachpjaaGreatDoor
open Go Go.ChangeShapes Go.WideShapes Go.ChangeAt Go.RowKit
open Sw
set_option maxRecDepth 100000 in
theorem archiveBack_walk : Walks 3 Tryz.f3 := by
  intro H enc W base args ds ps hval hA hlt hsz
  rw [Tryz.params3] at hA hval
  obtain ⟨v0, v1, d0, d1, p0, p1, rfl, rfl, rfl, h0, h1⟩ := trodAll_two hA
  obtain ⟨A, n, c, xs, rfl, hnc, hcm, hl, hsl, hv, _⟩ := open_slice_dec (size := 5) eCSN NEIn Tryz.underlying22 (by kernel_rfl) (by omega) dec_item (hval 0 22 v0 rfl rfl) h0
  obtain ⟨A', n', c', ys, rfl, hnc', hcm', hl', hsl', hv', _⟩ := open_slice_dec (size := 5) eCSN NEIn Tryz.underlying22 (by kernel_rfl) (by omega) dec_item (hval 1 22 v1 rfl rfl) h1
  subst hl hl'
  exact archBack_main W _ _ xs ys ⟨A, c, rfl, hnc, hcm, hsl⟩ ⟨A', c', rfl, hnc', hcm', hsl'⟩ (fun x hx => hv x hx) (fun x hx => hv' x hx)
end Go.Proofs.YtjcbjocgachpjaaGreatDoor
