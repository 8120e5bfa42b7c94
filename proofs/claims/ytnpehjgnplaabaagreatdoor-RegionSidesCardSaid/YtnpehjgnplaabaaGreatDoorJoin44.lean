/- Several texts, joined for the limit of sixty files; each one opens with its own comment. -/
import Derived.Test.YtnpehjgnplaabaaGreatDoorJoin43
import Derived.Test.YtnpehjgnplaabaaGreatDoorJoin35
/- Several texts, joined for the limit of sixty files; each one opens with its own comment. -/
/- The document's example of layer 31, and the policies' names. -/
set_option linter.unusedVariables false
set_option linter.unusedSimpArgs false
namespace Go.Proofs.YtnpehjgnplaabaaGreatDoor
open Go Go.RowKit
open Sw
theorem slv_twoG {w : World} {g : Nat} {te : TypeId} {α : Type} {E : α → List Value} {size : Nat} (hE : ∀ x, (E x).length = size) (x y : α) (h : Blk w g te (E x ++ E y).toArray) : SlV w size E (.slice (some ⟨g, 0, none⟩) 2 2) [x, y] :=
  ⟨some ⟨g, 0, none⟩, 2, rfl, by simp, by unfold maxLen; omega, fun _ => ⟨g, 0, rfl, h.lt, fun i hi j hj => by
    have hx := hE x
    have hi2 : i = 0 ∨ i = 1 := by simp at hi; omega
    rcases hi2 with rfl | rfl
    · rw [h.cell, List.getElem?_toArray, List.getElem?_append_left (by omega)]
      simp
    · rw [h.cell, List.getElem?_toArray, List.getElem?_append_right (by omega), hx]
      simp⟩⟩
def dirG : Nd := ⟨2, 0, 0, ⟨#[]⟩⟩
def filG : Nd := ⟨1, 0, 2162688, ⟨#[]⟩⟩
def liveG : List NE := [((⟨#[97]⟩ : ByteArray), dirG), ((⟨#[97, 47, 98]⟩ : ByteArray), filG)]
def liveM : List MkE := [((⟨#[97]⟩ : ByteArray), (⟨2, 0, 0, 0, 0⟩ : Pr)), ((⟨#[97, 47, 98]⟩ : ByteArray), (⟨2, 0, 0, 0, 0⟩ : Pr))]
theorem puts_liveG : putsT [] liveG = (0, liveG) := by kernel_rfl
theorem right_liveM : rightM liveM [] = true := by decide +kernel
theorem reg_lives : (clashN (endN 0 (liveM ++ []) liveG []).1 = [((⟨#[97]⟩ : ByteArray), 4)] ∧ (leftN (endN 0 (liveM ++ []) liveG []).1).length = 2) ∧ (rightN (endN 0 (liveM ++ []) liveG []).1).length = 0 := by decide +kernel
set_option maxRecDepth 100000 in
set_option maxHeartbeats 4000000 in
theorem regLives_any (w : World) : Calls Tryz.prog 6 #[] w fun e w' => e = .returned (.bool true) ∧ Below w.heap.size w w' := by
  have hn1 : NdIn dirG := by constructor <;> decide
  have hn2 : NdIn filG := by constructor <;> decide
  have hti := ti_of_puts (by rw [puts_liveG] : (putsT [] liveG).2 = liveG)
  have h1 : ∀ e ∈ liveG, e.1.size ≤ 90000 ∧ NdIn e.2 := fun e he => by
    simp only [liveG, List.mem_cons, List.not_mem_nil, or_false] at he
    rcases he with rfl | rfl
    · exact ⟨by show 1 ≤ 90000; omega, hn1⟩
    · exact ⟨by show 3 ≤ 90000; omega, hn2⟩
  have hm : ∀ m ∈ liveM, MkInA m := fun e he => by
    simp only [liveM, List.mem_cons, List.not_mem_nil, or_false] at he
    rcases he with rfl | rfl
    · exact ⟨by show 1 ≤ 90000; omega, by decide, by decide⟩
    · exact ⟨by show 3 ≤ 90000; omega, by decide, by decide⟩
  have HT1 := Lib.hid (fun W g (h : Blk W g 59 #[.string ⟨#[97]⟩, .int .i64 2, .int .i64 0, .int .u32 0, .string ⟨#[]⟩, .string ⟨#[97, 47, 98]⟩, .int .i64 1, .int .i64 0, .int .u32 2162688, .string ⟨#[]⟩]) => treeOf_any W (.slice (some ⟨g, 0, none⟩) 2 2) liveG (slv_twoG (E := eCSN) (te := 59) eCSN_len _ _ h) (by decide) h1 hti)
  have HRS := Lib.hid (fun W g (h : Blk W g 63 #[.string ⟨#[97]⟩, .int .i64 2, .int .i64 0, .int .u32 0, .int .i64 0, .int .u32 0, .string ⟨#[97, 47, 98]⟩, .int .i64 2, .int .i64 0, .int .u32 0, .int .i64 0, .int .u32 0]) b1 m1 b2 m2 (k1 : TreeAt W b1 m1 liveG) (k2 : TreeAt W b2 m2 []) => regResolve_any W (.slice (some ⟨g, 0, none⟩) 2 2) (.slice none 0 0) liveM [] b1 m1 b2 m2 liveG [] 0 (slv_twoG (E := eCM) (te := 63) eCM_len _ _ h) ⟨none, 0, rfl, Nat.le_refl _, by simp [maxLen], SlOf.nil _ _ _ _⟩ (by decide) (by decide) hm (fun _ h => by cases h) k1 k2 (by decide) (by decide) hti TI.nil (fun e he => (h1 e he).2) (fun _ h => by cases h) ⟨by decide, right_liveM⟩)
  have HLN : liveG.length = 2 := rfl
  simp only [HLN] at HT1
  clear hn1 hn2 hti h1 HLN hm
  obtain ⟨g, hg⟩ : ∃ n, w.heap.size = n := ⟨_, rfl⟩
  obtain ⟨W1, hW1⟩ : ∃ W, ((w.alloc (.cells #[.int .i64 2, .int .i64 0, .int .u32 0, .string ⟨#[]⟩] 57)).alloc (.cells #[.int .i64 1, .int .i64 0, .int .u32 2162688, .string ⟨#[]⟩] 57)).alloc (.cells #[.string ⟨#[97]⟩, .int .i64 2, .int .i64 0, .int .u32 0, .string ⟨#[]⟩, .string ⟨#[97, 47, 98]⟩, .int .i64 1, .int .i64 0, .int .u32 2162688, .string ⟨#[]⟩] 59) = W := ⟨_, rfl⟩
  have hb1 : Below w.heap.size w W1 := by rw [← hW1]; exact (((Below.refl _ w).alloc (Nat.le_refl _) _).alloc (by simp) _).alloc (by simp; omega) _
  have e2 : Blk W1 (g + 1 + 1) 59 #[.string ⟨#[97]⟩, .int .i64 2, .int .i64 0, .int .u32 0, .string ⟨#[]⟩, .string ⟨#[97, 47, 98]⟩, .int .i64 1, .int .i64 0, .int .u32 2162688, .string ⟨#[]⟩] := by
    have h9 := Blk.new ((w.alloc (.cells #[.int .i64 2, .int .i64 0, .int .u32 0, .string ⟨#[]⟩] 57)).alloc (.cells #[.int .i64 1, .int .i64 0, .int .u32 2162688, .string ⟨#[]⟩] 57)) 59 #[.string ⟨#[97]⟩, .int .i64 2, .int .i64 0, .int .u32 0, .string ⟨#[]⟩, .string ⟨#[97, 47, 98]⟩, .int .i64 1, .int .i64 0, .int .u32 2162688, .string ⟨#[]⟩]
    rw [hW1] at h9
    simpa [hg] using h9
  have HW1 := Lib.hid (And.intro hb1 e2)
  clear hb1 e2
  go_enter Tryz.func6, Tryz.ntmps6
  go_wp2_with fail
  refine (HT1.out W1 _ HW1.out.2).mono ?_
  rintro e w1 ⟨bt, bm, rfl, hT, -, -, hb⟩
  have H1 := Lib.hid (And.intro (HW1.out.1.trans (hb.mono HW1.out.1.size)) hT)
  obtain ⟨W2, hW2⟩ : ∃ W, (w1.alloc (.cells #[.string ⟨#[97]⟩, .int .i64 2, .int .i64 0, .int .u32 0, .int .i64 0, .int .u32 0, .string ⟨#[97, 47, 98]⟩, .int .i64 2, .int .i64 0, .int .u32 0, .int .i64 0, .int .u32 0] 63)).alloc (.cells #[.slice (some ⟨w1.heap.size, 0, none⟩) 2 2, .slice none 0 0] 24) = W := ⟨_, rfl⟩
  have hb2 : Below w1.heap.size w1 W2 := by rw [← hW2]; exact ((Below.refl _ w1).alloc (Nat.le_refl _) _).alloc (by simp) _
  have e3 : Blk W2 w1.heap.size 63 #[.string ⟨#[97]⟩, .int .i64 2, .int .i64 0, .int .u32 0, .int .i64 0, .int .u32 0, .string ⟨#[97, 47, 98]⟩, .int .i64 2, .int .i64 0, .int .u32 0, .int .i64 0, .int .u32 0] := by rw [← hW2]; exact blk_fst _ _ _ _
  have e4 : Blk W2 (w1.heap.size + 1) 24 #[.slice (some ⟨w1.heap.size, 0, none⟩) 2 2, .slice none 0 0] := by rw [← hW2]; exact blk_snd _ _ _ _
  have H2 := Lib.hid (And.intro (H1.out.1.trans (hb2.mono H1.out.1.size)) (And.intro (H1.out.2.below hb2) (And.intro e3 e4)))
  have HW2 := Lib.hid hW2
  clear hb hT hW1 HT1 hb2 e3 e4 hW2
  go_upto_region 4 with fail
  rw [HW2.out]
  go_cut [7, 8] from 27 to 33 (fun s7 s8 wx => ∃ (g7 : Nat) (cs : Array Value), s7 = .pointer (some ⟨g7, 0, none⟩) ∧ s8 = .int .i64 0 ∧ Blk wx g7 36 cs ∧ ResIs wx (endN 0 (liveM ++ []) liveG []) (liveM ++ []) (.agg cs) ∧ Below w.heap.size w wx)
  case first =>
    have HH2 := Lib.hid (And.intro H2.out.1 H2.out.2.2.2.lt)
    have HC0 := Lib.hid (Aft.start W2)
    have y0 := H2.out.2.2.2.cell 0
    have y1 := H2.out.2.2.2.cell 1
    simp only [List.getElem?_toArray, List.getElem?_cons_succ, List.getElem?_cons_zero] at y0 y1
    have k0 : ∀ m : Held (Aft W2), (HeldW m).cell? ⟨w1.heap.size + 1, 0, none⟩ = some (.slice (some ⟨w1.heap.size, 0, none⟩) 2 2) := fun m => (Aft.cell m HH2.out.2).trans y0
    have k1 : ∀ m : Held (Aft W2), (HeldW m).cell? ⟨w1.heap.size + 1, 1, none⟩ = some (.slice none 0 0) := fun m => (Aft.cell m HH2.out.2).trans y1
    clear y0 y1
    refine wp_region_mixT (Aft W2) (.first 0 (.first 1 (.two 2 (.two 3 (.first 4 (.first 5 (.first 6 (.forced 7 (.forced 8 (.forced 9 .nil)))))) 7 (.forced 3 (.first 4 (.first 5 (.first 6 (.forced 8 (.forced 9 .nil))))))) 7 (.forced 2 (.forced 3 (.first 4 (.first 5 (.first 6 (.forced 8 (.forced 9 .nil)))))))))) (by kernel_rfl) (by kernel_rfl) ?_
    simp only [pickT, List.getElem?_toArray, List.getElem?_cons_succ, List.getElem?_cons_zero]
    repeat (apply mixT_first; apply Exists.intro; refine ⟨fun m => ?_, HC0.out, ?_⟩; · (go_big_quiet_step (fail); exact wpQuiet_nil rfl))
    refine mixT_two HC0.out ?_ ?_
    · go_wp2_with fail
      refine (treeNew_any _).mono ?_
      rintro e w3 ⟨bt2, bm2, rfl, hT2, -, -, hb3⟩
      have H3 := Lib.hid (And.intro (show Aft W2 w3 from Aft.keep _ _ HC0.out hb3) hT2)
      clear hb3 hT2
      go_wp2_with fail
      show mixT _ _ _ _ _ _ _
      refine mixT_two H3.out.1 ?_ ?_
      · go_wp2_with fail
        refine (HRS.out w3 _ (H2.out.2.2.1.below H3.out.1 H2.out.2.2.1.lt) bt bm bt2 bm2 (H2.out.2.1.below H3.out.1) H3.out.2).mono ?_
        rintro e w4 ⟨⟨v, rfl, hR⟩, hb4⟩
        obtain ⟨tl, tr, A1, n1, c1, A2, n2, c2, A3, n3, c3, A4, n4, c4, rfl⟩ := hR.agg
        have H4 := Lib.hid (And.intro (show Aft W2 w4 from Aft.keep _ _ H3.out.1 hb4) hR)
        clear hb4 hR
        go_wp2_with fail
        show mixT _ _ _ _ _ _ _
        apply mixT_first; apply Exists.intro; refine ⟨fun m => ?_, H4.out.1, ?_⟩; · (go_big_quiet_step (fail); exact wpQuiet_nil rfl)
        apply mixT_first; apply Exists.intro; refine ⟨fun m => ?_, H4.out.1, ?_⟩; · (go_big_quiet_step (fail); exact wpQuiet_nil rfl)
        apply mixT_first; apply Exists.intro; refine ⟨fun m => ?_, H4.out.1, ?_⟩; · (go_big_quiet_step (fail); exact wpQuiet_nil rfl)
        refine mixT_forced H4.out.1 ?_
        go_wp2_with fail
        show mixT _ _ _ _ _ _ _
        refine mixT_forced (H4.out.1.alloc H4.out.1.size _) ?_
        go_wp2_with fail
        show mixT _ _ _ _ _ _ _
        refine mixT_forced (H4.out.1.alloc H4.out.1.size _) ?_
        go_wp2_with fail
        show mixT _ _ _ _ _ _ _
        refine mixT_nil (H4.out.1.alloc H4.out.1.size _) ?_
        go_wp2_with fail
        go_meet
        exact ⟨w4.heap.size, _, rfl, rfl, Blk.new _ _ _, H4.out.2.below ((Below.refl _ w4).alloc (Nat.le_refl _) _), HH2.out.1.trans ((H4.out.1.alloc H4.out.1.size _).mono HH2.out.1.size)⟩
      · go_wp2_with fail
        show mixT _ _ _ _ _ _ _
        obtain ⟨V0, hV0⟩ : ∃ V0, w3.alloc (.cells #[.pointer none, .pointer none, .slice none 0 0, .slice none 0 0, .slice none 0 0, .slice none 0 0] 36) = V0 := ⟨_, rfl⟩
        obtain ⟨g7, hg7⟩ : ∃ g, w3.heap.size = g := ⟨_, rfl⟩
        have hBg : Blk V0 g7 36 #[.pointer none, .pointer none, .slice none 0 0, .slice none 0 0, .slice none 0 0, .slice none 0 0] := by rw [← hV0, ← hg7]; exact (Blk.new w3 _ _)
        have hA : Aft W2 V0 := by rw [← hV0]; exact H3.out.1.alloc H3.out.1.size _
        have hT2 : TreeAt V0 bt2 bm2 [] := by rw [← hV0]; exact H3.out.2.below ((Below.refl _ w3).alloc (Nat.le_refl _) _)
        have hgw : W2.heap.size ≤ g7 := by rw [← hg7]; exact H3.out.1.size
        try rw [hV0]
        try rw [hg7]
        clear hV0 hg7
        refine mixT_forced hA ?_
        go_wp2_with fail
        refine (HRS.out V0 _ (H2.out.2.2.1.below hA H2.out.2.2.1.lt) bt bm bt2 bm2 (H2.out.2.1.below hA) hT2).mono ?_
        rintro e V ⟨⟨v, rfl, hR⟩, hb4⟩
        clear hT2
        have HV := Lib.hid (And.intro (hBg.below hb4 hBg.lt) (And.intro (show Aft W2 V from Aft.keep _ _ hA hb4) (And.intro hgw hR)))
        obtain ⟨tl, tr, A1, n1, c1, A2, n2, c2, A3, n3, c3, A4, n4, c4, rfl⟩ := hR.agg
        clear hb4 hBg hA hgw hR
        go_wp2_with fail
        show mixT _ _ _ _ _ _ _
        apply mixT_first; apply Exists.intro; refine ⟨fun m => ?_, HV.out.2.1, ?_⟩; · (go_big_quiet_step (fail); exact wpQuiet_nil rfl)
        apply mixT_first; apply Exists.intro; refine ⟨fun m => ?_, HV.out.2.1, ?_⟩; · (go_big_quiet_step (fail); exact wpQuiet_nil rfl)
        apply mixT_first; apply Exists.intro; refine ⟨fun m => ?_, HV.out.2.1, ?_⟩; · (go_big_quiet_step (fail); exact wpQuiet_nil rfl)
        have z0 := HV.out.1.cell 0
        have fz0 := HV.out.1.frozen 0
        have z1 := HV.out.1.cell 1
        have fz1 := HV.out.1.frozen 1
        have z2 := HV.out.1.cell 2
        have fz2 := HV.out.1.frozen 2
        have z3 := HV.out.1.cell 3
        have fz3 := HV.out.1.frozen 3
        have z4 := HV.out.1.cell 4
        have fz4 := HV.out.1.frozen 4
        have z5 := HV.out.1.cell 5
        have fz5 := HV.out.1.frozen 5
        simp only [List.getElem?_toArray, List.getElem?_cons_succ, List.getElem?_cons_zero] at z0 z1 z2 z3 z4 z5
        refine mixT_forced HV.out.2.1 ?_
        go_wp2_with fail
        show mixT _ _ _ _ _ _ _
        obtain ⟨VF, hVF⟩ : ∃ VF, ((((((V.setCell ⟨g7, 0, none⟩ (.pointer (some ⟨tl, 0, none⟩))).setCell ⟨g7, 1, none⟩ (.pointer (some ⟨tr, 0, none⟩))).setCell ⟨g7, 2, none⟩ (.slice A1 n1 c1)).setCell ⟨g7, 3, none⟩ (.slice A2 n2 c2)).setCell ⟨g7, 4, none⟩ (.slice A3 n3 c3)).setCell ⟨g7, 5, none⟩ (.slice A4 n4 c4)) = VF := ⟨_, rfl⟩
        rw [hVF]
        have p0 : Blk (V.setCell ⟨g7, 0, none⟩ (.pointer (some ⟨tl, 0, none⟩))) g7 36 #[.pointer (some ⟨tl, 0, none⟩), .pointer none, .slice none 0 0, .slice none 0 0, .slice none 0 0, .slice none 0 0] := HV.out.1.put 0 (.pointer (some ⟨tl, 0, none⟩))
        have p1 : Blk ((V.setCell ⟨g7, 0, none⟩ (.pointer (some ⟨tl, 0, none⟩))).setCell ⟨g7, 1, none⟩ (.pointer (some ⟨tr, 0, none⟩))) g7 36 #[.pointer (some ⟨tl, 0, none⟩), .pointer (some ⟨tr, 0, none⟩), .slice none 0 0, .slice none 0 0, .slice none 0 0, .slice none 0 0] := p0.put 1 (.pointer (some ⟨tr, 0, none⟩))
        have p2 : Blk (((V.setCell ⟨g7, 0, none⟩ (.pointer (some ⟨tl, 0, none⟩))).setCell ⟨g7, 1, none⟩ (.pointer (some ⟨tr, 0, none⟩))).setCell ⟨g7, 2, none⟩ (.slice A1 n1 c1)) g7 36 #[.pointer (some ⟨tl, 0, none⟩), .pointer (some ⟨tr, 0, none⟩), .slice A1 n1 c1, .slice none 0 0, .slice none 0 0, .slice none 0 0] := p1.put 2 (.slice A1 n1 c1)
        have p3 : Blk ((((V.setCell ⟨g7, 0, none⟩ (.pointer (some ⟨tl, 0, none⟩))).setCell ⟨g7, 1, none⟩ (.pointer (some ⟨tr, 0, none⟩))).setCell ⟨g7, 2, none⟩ (.slice A1 n1 c1)).setCell ⟨g7, 3, none⟩ (.slice A2 n2 c2)) g7 36 #[.pointer (some ⟨tl, 0, none⟩), .pointer (some ⟨tr, 0, none⟩), .slice A1 n1 c1, .slice A2 n2 c2, .slice none 0 0, .slice none 0 0] := p2.put 3 (.slice A2 n2 c2)
        have p4 : Blk (((((V.setCell ⟨g7, 0, none⟩ (.pointer (some ⟨tl, 0, none⟩))).setCell ⟨g7, 1, none⟩ (.pointer (some ⟨tr, 0, none⟩))).setCell ⟨g7, 2, none⟩ (.slice A1 n1 c1)).setCell ⟨g7, 3, none⟩ (.slice A2 n2 c2)).setCell ⟨g7, 4, none⟩ (.slice A3 n3 c3)) g7 36 #[.pointer (some ⟨tl, 0, none⟩), .pointer (some ⟨tr, 0, none⟩), .slice A1 n1 c1, .slice A2 n2 c2, .slice A3 n3 c3, .slice none 0 0] := p3.put 4 (.slice A3 n3 c3)
        have p5 : Blk ((((((V.setCell ⟨g7, 0, none⟩ (.pointer (some ⟨tl, 0, none⟩))).setCell ⟨g7, 1, none⟩ (.pointer (some ⟨tr, 0, none⟩))).setCell ⟨g7, 2, none⟩ (.slice A1 n1 c1)).setCell ⟨g7, 3, none⟩ (.slice A2 n2 c2)).setCell ⟨g7, 4, none⟩ (.slice A3 n3 c3)).setCell ⟨g7, 5, none⟩ (.slice A4 n4 c4)) g7 36 #[.pointer (some ⟨tl, 0, none⟩), .pointer (some ⟨tr, 0, none⟩), .slice A1 n1 c1, .slice A2 n2 c2, .slice A3 n3 c3, .slice A4 n4 c4] := p4.put 5 (.slice A4 n4 c4)
        have hBF : Blk VF g7 36 #[.pointer (some ⟨tl, 0, none⟩), .pointer (some ⟨tr, 0, none⟩), .slice A1 n1 c1, .slice A2 n2 c2, .slice A3 n3 c3, .slice A4 n4 c4] := by rw [← hVF]; exact p5
        clear p0 p1 p2 p3 p4 p5
        have hbV : Aft W2 VF := by rw [← hVF]; exact ((((((HV.out.2.1.setCell (p := ⟨g7, 0, none⟩) HV.out.2.2.1 (.pointer (some ⟨tl, 0, none⟩))).setCell (p := ⟨g7, 1, none⟩) HV.out.2.2.1 (.pointer (some ⟨tr, 0, none⟩))).setCell (p := ⟨g7, 2, none⟩) HV.out.2.2.1 (.slice A1 n1 c1)).setCell (p := ⟨g7, 3, none⟩) HV.out.2.2.1 (.slice A2 n2 c2)).setCell (p := ⟨g7, 4, none⟩) HV.out.2.2.1 (.slice A3 n3 c3)).setCell (p := ⟨g7, 5, none⟩) HV.out.2.2.1 (.slice A4 n4 c4))
        have hset : ∀ g', g' ≠ g7 → VF.heap[g']? = V.heap[g']? := fun g' hne => by rw [← hVF]; exact ((Below.heap_setCell _ ⟨g7, 5, none⟩ _ g' hne).trans ((Below.heap_setCell _ ⟨g7, 4, none⟩ _ g' hne).trans ((Below.heap_setCell _ ⟨g7, 3, none⟩ _ g' hne).trans ((Below.heap_setCell _ ⟨g7, 2, none⟩ _ g' hne).trans ((Below.heap_setCell _ ⟨g7, 1, none⟩ _ g' hne).trans (Below.heap_setCell _ ⟨g7, 0, none⟩ _ g' hne))))))
        have hRF := HV.out.2.2.2.same HV.out.1 hset
        clear hVF z0 fz0 z1 fz1 z2 fz2 z3 fz3 z4 fz4 z5 fz5 hset
        refine mixT_forced hbV ?_
        go_wp2_with fail
        show mixT _ _ _ _ _ _ _
        refine mixT_nil hbV ?_
        go_wp2_with fail
        go_meet
        exact ⟨g7, _, rfl, rfl, hBF, hRF, HH2.out.1.trans (hbV.mono HH2.out.1.size)⟩
    · go_wp2_with fail
      show mixT _ _ _ _ _ _ _
      obtain ⟨V0, hV0⟩ : ∃ V0, (W2.alloc (.cells #[.pointer none, .pointer none, .slice none 0 0, .slice none 0 0, .slice none 0 0, .slice none 0 0] 36)).drew = V0 := ⟨_, rfl⟩
      obtain ⟨g7, hg7⟩ : ∃ g, W2.heap.size = g := ⟨_, rfl⟩
      have hBg0 : Blk V0 g7 36 #[.pointer none, .pointer none, .slice none 0 0, .slice none 0 0, .slice none 0 0, .slice none 0 0] := by rw [← hV0, ← hg7]; exact (Blk.new W2 _ _)
      have hA0 : Aft W2 V0 := by rw [← hV0]; exact ((Below.refl _ W2).alloc (Nat.le_refl _) _).drew
      have hgw : W2.heap.size ≤ g7 := by omega
      try rw [hV0]
      try rw [hg7]
      clear hV0 hg7
      refine mixT_forced hA0 ?_
      go_wp2_with fail
      refine (treeNew_any _).mono ?_
      rintro e w3 ⟨bt2, bm2, rfl, hT2, -, -, hb3⟩
      have hBg := hBg0.below hb3 hBg0.lt
      have hA := Aft.keep _ _ hA0 hb3
      clear hb3 hA0 hBg0
      go_wp2_with fail
      show mixT _ _ _ _ _ _ _
      refine mixT_forced hA ?_
      go_wp2_with fail
      refine (HRS.out w3 _ (H2.out.2.2.1.below hA H2.out.2.2.1.lt) bt bm bt2 bm2 (H2.out.2.1.below hA) hT2).mono ?_
      rintro e V ⟨⟨v, rfl, hR⟩, hb4⟩
      clear hT2
      have HV := Lib.hid (And.intro (hBg.below hb4 hBg.lt) (And.intro (show Aft W2 V from Aft.keep _ _ hA hb4) (And.intro hgw hR)))
      obtain ⟨tl, tr, A1, n1, c1, A2, n2, c2, A3, n3, c3, A4, n4, c4, rfl⟩ := hR.agg
      clear hb4 hBg hA hgw hR
      go_wp2_with fail
      show mixT _ _ _ _ _ _ _
      apply mixT_first; apply Exists.intro; refine ⟨fun m => ?_, HV.out.2.1, ?_⟩; · (go_big_quiet_step (fail); exact wpQuiet_nil rfl)
      apply mixT_first; apply Exists.intro; refine ⟨fun m => ?_, HV.out.2.1, ?_⟩; · (go_big_quiet_step (fail); exact wpQuiet_nil rfl)
      apply mixT_first; apply Exists.intro; refine ⟨fun m => ?_, HV.out.2.1, ?_⟩; · (go_big_quiet_step (fail); exact wpQuiet_nil rfl)
      have z0 := HV.out.1.cell 0
      have fz0 := HV.out.1.frozen 0
      have z1 := HV.out.1.cell 1
      have fz1 := HV.out.1.frozen 1
      have z2 := HV.out.1.cell 2
      have fz2 := HV.out.1.frozen 2
      have z3 := HV.out.1.cell 3
      have fz3 := HV.out.1.frozen 3
      have z4 := HV.out.1.cell 4
      have fz4 := HV.out.1.frozen 4
      have z5 := HV.out.1.cell 5
      have fz5 := HV.out.1.frozen 5
      simp only [List.getElem?_toArray, List.getElem?_cons_succ, List.getElem?_cons_zero] at z0 z1 z2 z3 z4 z5
      refine mixT_forced HV.out.2.1 ?_
      go_wp2_with fail
      show mixT _ _ _ _ _ _ _
      obtain ⟨VF, hVF⟩ : ∃ VF, ((((((V.setCell ⟨g7, 0, none⟩ (.pointer (some ⟨tl, 0, none⟩))).setCell ⟨g7, 1, none⟩ (.pointer (some ⟨tr, 0, none⟩))).setCell ⟨g7, 2, none⟩ (.slice A1 n1 c1)).setCell ⟨g7, 3, none⟩ (.slice A2 n2 c2)).setCell ⟨g7, 4, none⟩ (.slice A3 n3 c3)).setCell ⟨g7, 5, none⟩ (.slice A4 n4 c4)) = VF := ⟨_, rfl⟩
      rw [hVF]
      have p0 : Blk (V.setCell ⟨g7, 0, none⟩ (.pointer (some ⟨tl, 0, none⟩))) g7 36 #[.pointer (some ⟨tl, 0, none⟩), .pointer none, .slice none 0 0, .slice none 0 0, .slice none 0 0, .slice none 0 0] := HV.out.1.put 0 (.pointer (some ⟨tl, 0, none⟩))
      have p1 : Blk ((V.setCell ⟨g7, 0, none⟩ (.pointer (some ⟨tl, 0, none⟩))).setCell ⟨g7, 1, none⟩ (.pointer (some ⟨tr, 0, none⟩))) g7 36 #[.pointer (some ⟨tl, 0, none⟩), .pointer (some ⟨tr, 0, none⟩), .slice none 0 0, .slice none 0 0, .slice none 0 0, .slice none 0 0] := p0.put 1 (.pointer (some ⟨tr, 0, none⟩))
      have p2 : Blk (((V.setCell ⟨g7, 0, none⟩ (.pointer (some ⟨tl, 0, none⟩))).setCell ⟨g7, 1, none⟩ (.pointer (some ⟨tr, 0, none⟩))).setCell ⟨g7, 2, none⟩ (.slice A1 n1 c1)) g7 36 #[.pointer (some ⟨tl, 0, none⟩), .pointer (some ⟨tr, 0, none⟩), .slice A1 n1 c1, .slice none 0 0, .slice none 0 0, .slice none 0 0] := p1.put 2 (.slice A1 n1 c1)
      have p3 : Blk ((((V.setCell ⟨g7, 0, none⟩ (.pointer (some ⟨tl, 0, none⟩))).setCell ⟨g7, 1, none⟩ (.pointer (some ⟨tr, 0, none⟩))).setCell ⟨g7, 2, none⟩ (.slice A1 n1 c1)).setCell ⟨g7, 3, none⟩ (.slice A2 n2 c2)) g7 36 #[.pointer (some ⟨tl, 0, none⟩), .pointer (some ⟨tr, 0, none⟩), .slice A1 n1 c1, .slice A2 n2 c2, .slice none 0 0, .slice none 0 0] := p2.put 3 (.slice A2 n2 c2)
      have p4 : Blk (((((V.setCell ⟨g7, 0, none⟩ (.pointer (some ⟨tl, 0, none⟩))).setCell ⟨g7, 1, none⟩ (.pointer (some ⟨tr, 0, none⟩))).setCell ⟨g7, 2, none⟩ (.slice A1 n1 c1)).setCell ⟨g7, 3, none⟩ (.slice A2 n2 c2)).setCell ⟨g7, 4, none⟩ (.slice A3 n3 c3)) g7 36 #[.pointer (some ⟨tl, 0, none⟩), .pointer (some ⟨tr, 0, none⟩), .slice A1 n1 c1, .slice A2 n2 c2, .slice A3 n3 c3, .slice none 0 0] := p3.put 4 (.slice A3 n3 c3)
      have p5 : Blk ((((((V.setCell ⟨g7, 0, none⟩ (.pointer (some ⟨tl, 0, none⟩))).setCell ⟨g7, 1, none⟩ (.pointer (some ⟨tr, 0, none⟩))).setCell ⟨g7, 2, none⟩ (.slice A1 n1 c1)).setCell ⟨g7, 3, none⟩ (.slice A2 n2 c2)).setCell ⟨g7, 4, none⟩ (.slice A3 n3 c3)).setCell ⟨g7, 5, none⟩ (.slice A4 n4 c4)) g7 36 #[.pointer (some ⟨tl, 0, none⟩), .pointer (some ⟨tr, 0, none⟩), .slice A1 n1 c1, .slice A2 n2 c2, .slice A3 n3 c3, .slice A4 n4 c4] := p4.put 5 (.slice A4 n4 c4)
      have hBF : Blk VF g7 36 #[.pointer (some ⟨tl, 0, none⟩), .pointer (some ⟨tr, 0, none⟩), .slice A1 n1 c1, .slice A2 n2 c2, .slice A3 n3 c3, .slice A4 n4 c4] := by rw [← hVF]; exact p5
      clear p0 p1 p2 p3 p4 p5
      have hbV : Aft W2 VF := by rw [← hVF]; exact ((((((HV.out.2.1.setCell (p := ⟨g7, 0, none⟩) HV.out.2.2.1 (.pointer (some ⟨tl, 0, none⟩))).setCell (p := ⟨g7, 1, none⟩) HV.out.2.2.1 (.pointer (some ⟨tr, 0, none⟩))).setCell (p := ⟨g7, 2, none⟩) HV.out.2.2.1 (.slice A1 n1 c1)).setCell (p := ⟨g7, 3, none⟩) HV.out.2.2.1 (.slice A2 n2 c2)).setCell (p := ⟨g7, 4, none⟩) HV.out.2.2.1 (.slice A3 n3 c3)).setCell (p := ⟨g7, 5, none⟩) HV.out.2.2.1 (.slice A4 n4 c4))
      have hset : ∀ g', g' ≠ g7 → VF.heap[g']? = V.heap[g']? := fun g' hne => by rw [← hVF]; exact ((Below.heap_setCell _ ⟨g7, 5, none⟩ _ g' hne).trans ((Below.heap_setCell _ ⟨g7, 4, none⟩ _ g' hne).trans ((Below.heap_setCell _ ⟨g7, 3, none⟩ _ g' hne).trans ((Below.heap_setCell _ ⟨g7, 2, none⟩ _ g' hne).trans ((Below.heap_setCell _ ⟨g7, 1, none⟩ _ g' hne).trans (Below.heap_setCell _ ⟨g7, 0, none⟩ _ g' hne))))))
      have hRF := HV.out.2.2.2.same HV.out.1 hset
      clear hVF z0 fz0 z1 fz1 z2 fz2 z3 fz3 z4 fz4 z5 fz5 hset
      refine mixT_forced hbV ?_
      go_wp2_with fail
      show mixT _ _ _ _ _ _ _
      refine mixT_nil hbV ?_
      go_wp2_with fail
      go_meet
      exact ⟨g7, _, rfl, rfl, hBF, hRF, HH2.out.1.trans (hbV.mono HH2.out.1.size)⟩
  case rest =>
    obtain ⟨g7, cs, rfl, rfl, hB, hR, hb⟩ := hcut
    generalize wc = w5 at *
    obtain ⟨tl, ml, tr, mr, ua, uh, uc, ug, b1, b2, b3, e, hTL, hTR, -, -, hC, -⟩ := hR.ex
    injection e with e
    subst e
    rw [reg_lives.1.1] at hC
    obtain ⟨A3, c3, rfl, -, hc3, hso⟩ := (SlV.of_own hC eCl_len (by decide) : SlV w5 2 eCl uc [((⟨#[97]⟩ : ByteArray), 4)])
    obtain ⟨b, off, rfl, hbb, hcs⟩ := hso (by simp)
    have k0 := hcs 0 (by simp) 0 (by omega)
    have k1 := hcs 0 (by simp) 1 (by omega)
    simp only [eCl, List.getElem_cons_zero, List.getElem?_cons_zero, List.getElem?_cons_succ, Nat.zero_mul, Nat.add_zero, Nat.zero_add] at k0 k1
    have HLL := Lib.hid (treeLen_any w5 tl ml _ hTL)
    have HLR := Lib.hid (treeLen_any w5 tr mr _ hTR)
    rw [reg_lives.1.2] at HLL
    rw [reg_lives.2] at HLR
    have x0 := hB.cell 0
    have x1 := hB.cell 1
    have x4 := hB.cell 4
    simp only [List.getElem?_toArray, List.getElem?_cons_succ, List.getElem?_cons_zero, List.length_cons, List.length_nil, Nat.zero_add] at x0 x1 x4
    have HB := Lib.hid hb
    clear hC hso hcs hB hR hTL hTR hb HRS H1 H2
    go_wp2_with fail
    refine HLL.out.mono ?_
    rintro e w6 ⟨rfl, rfl⟩
    go_wp2_with fail
    refine HLR.out.mono ?_
    rintro e w6 ⟨rfl, rfl⟩
    go_wp2_with fail
    go_ret
    exact ⟨rfl, HB.out⟩
end Go.Proofs.YtnpehjgnplaabaaGreatDoor
