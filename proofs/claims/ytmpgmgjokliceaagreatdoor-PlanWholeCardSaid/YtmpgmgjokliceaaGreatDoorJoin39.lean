/- Several texts, joined for the limit of sixty files; each one opens with its own comment. -/
import Derived.Test.YtmpgmgjokliceaaGreatDoorJoin28
import Derived.Test.YtmpgmgjokliceaaGreatDoorJoin37
import Derived.Test.YtmpgmgjokliceaaGreatDoorJoin38
import Derived.Test.YtmpgmgjokliceaaGreatDoorJoin31
import Derived.Test.YtmpgmgjokliceaaGreatDoorJoin33
import Derived.Test.YtmpgmgjokliceaaGreatDoorJoin32
/- PlanOf: the steps of any two trees, with any paths put as a whole. -/
set_option linter.unusedVariables false
set_option linter.unusedSimpArgs false
namespace Go.Proofs.YtmpgmgjokliceaaGreatDoor
open Go Go.RowKit
open Sw
theorem neq_node32 (d : ByteArray) (k m t : Int) (W : World) : (binOp .neq 37 (.agg #[.int .i64 k, .int .i64 m, .int .u32 t, .string d]) (.agg #[.int .i64 k, .int .i64 m, .int .u32 t, .string d])).run Tryz.prog W = .ok (.bool false) W := by
  simp [go_sem, Tryz.underlying37, Tryz.underlying3, Tryz.underlying35, Tryz.underlying9]
theorem neq_change32 (p d : ByteArray) (k m t : Int) (W : World) : (binOp .neq 46 (.agg #[.string p, .int .i64 k, .int .i64 m, .int .u32 t, .string d]) (.agg #[.string p, .int .i64 k, .int .i64 m, .int .u32 t, .string d])).run Tryz.prog W = .ok (.bool false) W := by
  simp [go_sem, Tryz.underlying46, Tryz.underlying37, Tryz.underlying3, Tryz.underlying35, Tryz.underlying9]
theorem neq_bool32 (b : Bool) (W : World) : (binOp .neq 4 (.bool b) (.bool b)).run Tryz.prog W = .ok (.bool false) W := by
  simp [go_sem, Tryz.underlying4]
theorem planN_parts (xs ys : List NE) (tops : List ByteArray) : ∀ s ∈ planN xs ys tops, s.path ∈ pathsN xs ys tops ∧ s.items.length ≤ ys.length ∧ (s.graft = false → s.items = []) := fun s hs => by
  rcases List.mem_append.1 hs with h | h
  · obtain ⟨p, hp, e⟩ := List.mem_filterMap.1 h
    unfold awayN at e
    have hp' := List.mem_reverse.1 hp
    split at e
    · cases e; exact ⟨hp', Nat.zero_le _, fun _ => rfl⟩
    · split at e
      · cases e
      · split at e
        · cases e; exact ⟨hp', Nat.zero_le _, fun _ => rfl⟩
        · cases e
  · obtain ⟨p, hp, e⟩ := List.mem_filterMap.1 h
    unfold comeN at e
    split at e
    · cases e; exact ⟨hp, undT_lenP p ys, fun h => by cases h⟩
    · split at e
      · cases e
      · split at e
        · cases e; exact ⟨hp, Nat.zero_le _, fun _ => rfl⟩
        · cases e
theorem planN_len (xs ys : List NE) (tops : List ByteArray) : (planN xs ys tops).length ≤ 2 * (xs.length + ys.length + tops.length) := by
  unfold planN
  rw [List.length_append]
  have h1 := List.length_filterMap_le (awayN xs ys tops) (pathsN xs ys tops).reverse
  have h2 := List.length_filterMap_le (comeN xs ys tops) (pathsN xs ys tops)
  have h3 : (pathsN xs ys tops).length ≤ xs.length + ys.length + tops.length := by
    have := pathsS_len (xs.map Prod.fst ++ ys.map Prod.fst ++ tops)
    rw [List.length_append, List.length_append, List.length_map, List.length_map] at this
    unfold pathsN
    omega
  rw [List.length_reverse] at h1
  omega
theorem cell_belowD {w w' : World} (h : Below w.heap.size w w') {b k : Nat} (hb : b < w.heap.size) : w'.cell? ⟨b, k, none⟩ = w.cell? ⟨b, k, none⟩ := h.cell (p := ⟨b, k, none⟩) hb
/-- how many steps and items -/
def cntN (l : List StepP) : Nat := (l.map fun s => 1 + s.items.length).sum
theorem cntN_steps (l : List StepP) (h : ∀ s ∈ l, s.graft = false → s.items = []) : cntN l = stepsN l := by
  unfold cntN stepsN
  congr 1
  refine List.map_congr_left fun s hs => ?_
  cases hg : s.graft with
  | true => simp
  | false => rw [h s hs hg]; simp
theorem cntN_take (l : List StepP) (i : Nat) (h : i < l.length) : cntN (l.take (i + 1)) = cntN (l.take i) + (1 + l[i].items.length) := by
  unfold cntN
  rw [List.take_succ_eq_append_getElem h, List.map_append, List.sum_append]
  simp
theorem cntN_le (l : List StepP) (B : Nat) (h : ∀ s ∈ l, s.items.length ≤ B) : cntN l ≤ l.length * (1 + B) := by
  induction l with
  | nil => simp [cntN]
  | cons s l ih =>
    have h1 := ih (fun t ht => h t (List.mem_cons_of_mem _ ht))
    have h2 := h s (List.mem_cons_self ..)
    unfold cntN at h1 ⊢
    rw [List.map_cons, List.sum_cons, List.length_cons, Nat.succ_mul]
    omega
set_option maxRecDepth 100000 in
set_option maxHeartbeats 16000000 in
theorem planOf_main (w : World) (v1 v2 gv : Value) (xs ys : List NE) (gs : List ByteArray) (g1 : SlV w 5 eCSN v1 xs) (g2 : SlV w 5 eCSN v2 ys) (g3 : SlV w 1 sE gv gs) (hx : ∀ x ∈ xs, x.1.size ≤ maxLen ∧ NdIn x.2) (hy : ∀ x ∈ ys, x.1.size ≤ maxLen ∧ NdIn x.2) :
    Calls Tryz.prog 3 #[.agg #[v1, v2], gv] w fun e w' => e = .returned (.bool true) ∧ Below w.heap.size w w' := by
  obtain ⟨W, hW⟩ : ∃ W, w.alloc (.cells #[v1, v2] 23) = W := ⟨_, rfl⟩
  have hb0 : Below w.heap.size w W := by rw [← hW]; exact (Below.refl _ w).alloc (Nat.le_refl _) _
  have hB0 : Blk W w.heap.size 23 #[v1, v2] := by rw [← hW]; exact Blk.new _ _ _
  have HL := Lib.hid (light32_any W v1 v2 gv xs ys gs (g1.below hb0 (Nat.le_refl _)) (g2.below hb0 (Nat.le_refl _)) (g3.below hb0 (Nat.le_refl _)) hx hy)
  have HT1 := Lib.hid (fun W' (hb : Below w.heap.size w W') (h1 : xs.length ≤ 15) (h2 : ∀ e ∈ xs, SmallE e) (h3 : TI xs) => treeOf_any W' v1 xs (g1.below hb (Nat.le_refl _)) (by omega) (fun x hx' => ⟨by have := (h2 x hx').1; omega, (hx x hx').2⟩) h3)
  have HT2 := Lib.hid (fun W' (hb : Below w.heap.size w W') (h1 : ys.length ≤ 15) (h2 : ∀ e ∈ ys, SmallE e) (h3 : TI ys) => treeOf_any W' v2 ys (g2.below hb (Nat.le_refl _)) (by omega) (fun x hx' => ⟨by have := (h2 x hx').1; omega, (hy x hx').2⟩) h3)
  have HG := Lib.hid (fun W' (hb : Below w.heap.size w W') => And.intro (g1.below hb (Nat.le_refl _)) (And.intro (g2.below hb (Nat.le_refl _)) (g3.below hb (Nat.le_refl _) : SlV W' 1 sE gv gs)))
  have x0 := hB0.cell 0
  have x1 := hB0.cell 1
  simp only [List.getElem?_toArray, List.getElem?_cons_succ, List.getElem?_cons_zero] at x0 x1
  have HB := Lib.hid (And.intro hb0 hB0)
  have HW := Lib.hid hW
  have HI := Lib.hid (And.intro hx hy)
  obtain ⟨A1, c1, rfl, _, _, _⟩ := g1
  obtain ⟨A2, c2, rfl, _, _, _⟩ := g2
  obtain ⟨A3, c3, rfl, _, _, _⟩ := g3
  obtain ⟨n1, hn1⟩ : ∃ n, xs.length = n := ⟨_, rfl⟩
  obtain ⟨n2, hn2⟩ : ∃ n, ys.length = n := ⟨_, rfl⟩
  obtain ⟨n3, hn3⟩ : ∃ n, gs.length = n := ⟨_, rfl⟩
  have HN := Lib.hid (And.intro hn1 (And.intro hn2 hn3))
  rw [hn1, hn2] at HW HB
  rw [hn1, hn2, hn3] at HL HG
  rw [hn1] at x0 HT1
  rw [hn2] at x1 HT2
  rw [hn1, hn2, hn3]
  clear hb0 hB0 hW hx hy hn1 hn2 hn3
  go_enter Tryz.func3, Tryz.ntmps3
  go_upto_region 1 with fail
  rw [HW.out]
  go_wp2_with fail
  refine HL.out.mono ?_
  rintro e w1 ⟨⟨R, rfl, hR⟩, hb1⟩
  have hB1 := HB.out.2.below hb1 HB.out.2.lt
  have H1 := Lib.hid (And.intro (HB.out.1.trans (hb1.mono HB.out.1.size)) (And.intro hB1 hR))
  have y0 := hB1.cell 0
  simp only [List.getElem?_toArray, List.getElem?_cons_succ, List.getElem?_cons_zero] at y0
  clear hb1 hB1 hR HL x0 x1
  cases R with
  | false =>
    go_wp2_with fail
    refine (lives32_any _).mono ?_
    rintro e w2 ⟨rfl, hb2⟩
    have H2 := Lib.hid (H1.out.1.trans (hb2.mono H1.out.1.size)); clear hb2
    go_wp2_with fail
    go_ret
    exact ⟨rfl, H2.out⟩
  | true =>
    obtain ⟨⟨hxl, hxs, hxp⟩, ⟨hyl, hys, hyp⟩, hgz, hgl⟩ := H1.out.2.2 (by first | rfl | trivial)
    have HTX := Lib.hid (ti_of_puts (by rw [hxp] : (putsT [] xs).2 = xs))
    have HTY := Lib.hid (ti_of_puts (by rw [hyp] : (putsT [] ys).2 = ys))
    have HSX := Lib.hid (And.intro hxl hxs)
    have HSY := Lib.hid (And.intro hyl hys)
    have HSG := Lib.hid (And.intro hgl (show ∀ p ∈ gs, p.size ≤ 90000 from fun p hp => by have := hgz p hp; omega))
    have HDD := Lib.hid (show (∀ e ∈ xs, e.2.data.size ≤ maxLen) ∧ (∀ e ∈ ys, e.2.data.size ≤ maxLen) from ⟨fun e he => (HI.out.1 e he).2.size, fun e he => (HI.out.2 e he).2.size⟩)
    have HZX := Lib.hid (show (∀ e ∈ xs, e.1.size ≤ 90000) ∧ (∀ e ∈ ys, e.1.size ≤ 90000) from ⟨fun e he => by have := (HSX.out.2 e he).1; omega, fun e he => by have := (HSY.out.2 e he).1; omega⟩)
    clear hxl hxs hxp hyl hys hyp hgz hgl
    have HPO := Lib.hid (fun V b1 m1 b2 m2 (k1 : TreeAt V b1 m1 xs) (k2 : TreeAt V b2 m2 ys) (hb : Below w.heap.size w V) => planOf_any V b1 m1 b2 m2 _ gs xs ys k1 k2 (HG.out V hb).2.2 (by have := HSX.out.1; omega) (by have := HSY.out.1; omega) (by have := HSG.out.1; omega) HZX.out.1 HZX.out.2 HSG.out.2 HDD.out.1 HDD.out.2)
    have HCG := Lib.hid (fun V b1 m1 b2 m2 (k1 : TreeAt V b1 m1 xs) (k2 : TreeAt V b2 m2 ys) => changes_any V b1 m1 b2 m2 xs ys k1 k2 (by have := HSX.out.1; omega) (by have := HSY.out.1; omega) HZX.out.1 HZX.out.2 HDD.out.1 HDD.out.2)
    have HRO := Lib.hid (fun V (hb : Below w.heap.size w V) => ref32Of_any V _ _ _ xs ys gs (HG.out V hb).1 (HG.out V hb).2.1 (HG.out V hb).2.2 (by have := HSX.out.1; omega) (by have := HSY.out.1; omega) (by have := HSG.out.1; omega) HZX.out.1 HZX.out.2 HSG.out.2 HDD.out.1 HDD.out.2 HTX.out.up HTY.out.up)
    have HRN := Lib.hid (fun V (hb : Below w.heap.size w V) => ref32Of_any V _ _ (.slice none 0 0) xs ys [] (HG.out V hb).1 (HG.out V hb).2.1 ⟨none, 0, rfl, Nat.le_refl _, by simp [maxLen], SlOf.nil _ _ _ _⟩ (by have := HSX.out.1; omega) (by have := HSY.out.1; omega) (by simp) HZX.out.1 HZX.out.2 (by simp) HDD.out.1 HDD.out.2 HTX.out.up HTY.out.up)
    obtain ⟨P, hP⟩ : ∃ P, planN xs ys (topsN gs) = P := ⟨_, rfl⟩
    have hpp := planN_parts xs ys (topsN gs)
    have hpl := planN_len xs ys (topsN gs)
    have htl : (topsN gs).length ≤ 6 := Nat.le_trans (List.length_filter_le _ _) HSG.out.1
    have HPP := Lib.hid (show (∀ s ∈ P, s.path.size ≤ 90000 ∧ s.items.length ≤ 15 ∧ (s.graft = false → s.items = [])) ∧ P.length ≤ 72 from ⟨fun s hs => by
      rw [← hP] at hs
      obtain ⟨h1, h2, h3⟩ := hpp s hs
      refine ⟨?_, by have := HSY.out.1; omega, h3⟩
      have h4 := (pathsS_mem _ _).1 h1
      rcases List.mem_append.1 h4 with h | h
      · rcases List.mem_append.1 h with h | h
        · obtain ⟨z, hz, e⟩ := List.mem_map.1 h
          rw [← e]; exact HZX.out.1 z hz
        · obtain ⟨z, hz, e⟩ := List.mem_map.1 h
          rw [← e]; exact HZX.out.2 z hz
      · exact HSG.out.2 _ ((List.mem_filter.1 h).1), by rw [← hP]; have := HSX.out.1; have := HSY.out.1; omega⟩)
    simp only [hP] at HPO HRO
    obtain ⟨Q, hQ⟩ : ∃ Q, planN xs ys [] = Q := ⟨_, rfl⟩
    have HQL := Lib.hid (show Q.length ≤ 72 by rw [← hQ]; have := planN_len xs ys []; have := HSX.out.1; have := HSY.out.1; simp at *; omega)
    simp only [show topsN [] = [] from rfl, hQ] at HRN HCG
    clear hP hpp hpl htl hQ
    go_wp2_with fail
    refine (HT1.out w1 H1.out.1 (by have := HSX.out.1; have := HN.out.1; omega) HSX.out.2 HTX.out).mono ?_
    rintro e w2 ⟨bt, bm, rfl, hT, -, -, hb2⟩
    have hB2 := H1.out.2.1.below hb2 H1.out.2.1.lt
    have H2 := Lib.hid (And.intro (H1.out.1.trans (hb2.mono H1.out.1.size)) (And.intro hB2 hT))
    have y1 := hB2.cell 1
    simp only [List.getElem?_toArray, List.getElem?_cons_succ, List.getElem?_cons_zero] at y1
    clear hb2 hT hB2 HT1 y0
    go_wp2_with fail
    refine (HT2.out w2 H2.out.1 (by have := HSY.out.1; have := HN.out.2.1; omega) HSY.out.2 HTY.out).mono ?_
    rintro e w3 ⟨bt2, bm2, rfl, hT2, -, -, hb3⟩
    have H3 := Lib.hid (And.intro (H2.out.1.trans (hb3.mono H2.out.1.size)) (And.intro (H2.out.2.1.below hb3 H2.out.2.1.lt) (And.intro (H2.out.2.2.below hb3) hT2)))
    clear hb3 hT2 HT2 y1
    go_upto_region 5 with fail
    have k0 : ∀ m : Held (Aft w3), (HeldW m).cell? ⟨w.heap.size, 0, none⟩ = some (.slice A1 n1 c1) := fun m => (Aft.cell m H3.out.2.1.lt).trans (H3.out.2.1.cell 0)
    have k1 : ∀ m : Held (Aft w3), (HeldW m).cell? ⟨w.heap.size, 1, none⟩ = some (.slice A2 n2 c2) := fun m => (Aft.cell m H3.out.2.1.lt).trans (H3.out.2.1.cell 1)
    have HC0 := Lib.hid (Aft.start w3)
    refine wp_region_mix (Aft w3) [(0, true), (1, true), (2, true), (4, true), (5, true), (6, true), (7, true), (8, true), (3, false), (9, false), (10, true), (11, true)] (by kernel_rfl) (by kernel_rfl) ?_
    simp only [pickP, List.filterMap_cons, List.filterMap_nil, List.getElem?_toArray, List.getElem?_cons_succ, List.getElem?_cons_zero, Option.map_some]
    repeat (apply mix_first; apply Exists.intro; refine ⟨fun m => ?_, HC0.out, ?_⟩; · (go_big_quiet_step (fail); exact wpQuiet_nil rfl))
    refine mix_forced HC0.out ?_
    go_wp2_with fail
    refine (HPO.out w3.drew bt bm bt2 bm2 (H3.out.2.2.1.below HC0.out) (H3.out.2.2.2.below HC0.out) (H3.out.1.trans ((HC0.out : Below w3.heap.size w3 w3.drew).mono H3.out.1.size))).mono ?_
    rintro e w4 ⟨o4, l4, rfl, ho4, hl4, hit4, hb4⟩
    have HC4 := Lib.hid (show Aft w3 w4 from Aft.keep _ _ HC0.out hb4)
    have H4 := Lib.hid (And.intro (SlV.of_own ho4 eSt_len (by decide) : SlV w4 7 eSt o4 l4) (And.intro hl4 hit4))
    obtain ⟨A4, c4, rfl, -, -, -⟩ := SlV_of_any ho4
    clear ho4 hl4 hit4 hb4 HC0 HPO
    go_wp2_with fail
    show mixC _ _ _ _ _ _ _
    refine mix_forced HC4.out ?_
    go_wp2_with fail
    refine (HRO.out w4 (H3.out.1.trans ((HC4.out : Below w3.heap.size w3 w4).mono H3.out.1.size))).mono ?_
    rintro e w5 ⟨o5, l5, rfl, hR5, hl5⟩
    have hb5 : Below w4.heap.size w4 w5 := hR5.2.2
    have HC5 := Lib.hid (show Aft w3 w5 from Aft.keep _ _ HC4.out hb5)
    have H5 := Lib.hid (And.intro (SlV.of_own hR5.1 eSt_len (by decide) : SlV w5 7 eSt o5 l5) (And.intro hl5 hR5.2.1))
    have H45 := Lib.hid (And.intro (H4.out.1.below hb5 (Nat.le_refl _)) (fun s hs => (H4.out.2.2 s hs).below hb5))
    obtain ⟨A5, c5, rfl, -, -, -⟩ := SlV_of_any hR5.1
    clear hR5 hl5 hb5 HC4 HRO
    go_wp2_with fail
    show mixC _ _ _ _ _ _ _
    repeat (apply mix_first; apply Exists.intro; refine ⟨fun m => ?_, HC5.out, ?_⟩; · (go_big_quiet_step (fail); exact wpQuiet_nil rfl))
    refine mix_nil HC5.out ?_
    clear k0 k1
    have HW5 := Lib.hid (And.intro (H3.out.1.trans ((HC5.out : Below w3.heap.size w3 w5).mono H3.out.1.size)) (And.intro (H3.out.2.1.below HC5.out H3.out.2.1.lt) (And.intro (H3.out.2.2.1.below HC5.out) (H3.out.2.2.2.below HC5.out))))
    obtain ⟨N, hN⟩ : ∃ N, P.length = N := ⟨_, rfl⟩
    have h4N : l4.length = N := by rw [← hN, ← H4.out.2.1, List.length_map]
    have h5N : l5.length = N := by rw [← hN, ← H5.out.2.1, List.length_map]
    have HLN := Lib.hid (And.intro hN (And.intro h4N h5N))
    have hNb : N ≤ 72 := by rw [← hN]; exact HPP.out.2
    rw [h4N] at H45
    rw [h5N] at H5
    rw [h4N, h5N]
    clear hN h4N h5N HC5
    go_wp2_with fail
    go_loopw [4, 13, 51] (fun _ nv iv wr => ∃ i m : Nat, i ≤ N ∧ iv = .int .i64 i ∧ nv = .int .i64 m ∧ m = cntN (P.take i) ∧ m ≤ i * 16 ∧ Below w5.heap.size w5 wr) (fun _ _ iv _ => N - (intOf iv).toNat)
    case atStart => exact ⟨0, 0, Nat.zero_le _, rfl, rfl, rfl, Nat.le_refl _, Below.refl _ _⟩
    case round =>
      obtain ⟨i, m, hi, rfl, rfl, hm, hmb, hb⟩ := hrel
      by_cases hlt : i < N
      · have hiP : i < P.length := by have := HLN.out.1; omega
        have hi4 : i < l4.length := by have := HLN.out.2.1; omega
        have hi5 : i < l5.length := by have := HLN.out.2.2; omega
        obtain ⟨A', c', hA, _, _, hso⟩ := H45.out.1.below hb (Nat.le_refl _)
        rw [HLN.out.2.1] at hA
        obtain ⟨rfl, rfl⟩ : A4 = A' ∧ c4 = c' := by injection hA with e1 e2 e3; exact ⟨e1, e3⟩
        clear hA
        obtain ⟨b4, off4, rfl, hbb4, hcs4⟩ := hso (by omega)
        obtain ⟨A', c', hA, _, _, hso⟩ := H5.out.1.below hb (Nat.le_refl _)
        rw [HLN.out.2.2] at hA
        obtain ⟨rfl, rfl⟩ : A5 = A' ∧ c5 = c' := by injection hA with e1 e2 e3; exact ⟨e1, e3⟩
        clear hA
        obtain ⟨b5, off5, rfl, hbb5, hcs5⟩ := hso (by omega)
        have e4 : l4[i].1 = P[i] := by
          have h := List.getElem_map Prod.fst (l := l4) (i := i) (h := by rw [List.length_map]; exact hi4)
          simp only [H4.out.2.1] at h
          exact h.symm
        have e5 : l5[i].1 = P[i] := by
          have h := List.getElem_map Prod.fst (l := l5) (i := i) (h := by rw [List.length_map]; exact hi5)
          simp only [H5.out.2.1] at h
          exact h.symm
        have it4 := (H45.out.2 _ (List.getElem_mem hi4)).below hb
        have it5 := (H5.out.2.2 _ (List.getElem_mem hi5)).below hb
        have hpp := HPP.out.1 _ (List.getElem_mem hiP)
        have hst := cntN_take P i hiP
        rw [← hm] at hst
        have d0 := hcs4 i hi4 0 (by omega)
        have d1 := hcs4 i hi4 1 (by omega)
        have d2 := hcs4 i hi4 2 (by omega)
        have d3 := hcs4 i hi4 3 (by omega)
        have d4 := hcs4 i hi4 4 (by omega)
        have d5 := hcs4 i hi4 5 (by omega)
        have d6 := hcs4 i hi4 6 (by omega)
        have c0 := hcs5 i hi5 0 (by omega)
        have c1 := hcs5 i hi5 1 (by omega)
        have c2 := hcs5 i hi5 2 (by omega)
        have c3 := hcs5 i hi5 3 (by omega)
        have c4 := hcs5 i hi5 4 (by omega)
        have c5 := hcs5 i hi5 5 (by omega)
        have c6 := hcs5 i hi5 6 (by omega)
        simp only [eSt, List.getElem?_cons_succ, List.getElem?_cons_zero, Nat.add_zero] at c0 c1 c2 c3 c4 c5 c6 d0 d1 d2 d3 d4 d5 d6
        clear hcs4 hcs5 hso
        obtain ⟨x4, hx4⟩ : ∃ x, l4[i] = x := ⟨_, rfl⟩
        obtain ⟨x5, hx5⟩ : ∃ x, l5[i] = x := ⟨_, rfl⟩
        obtain ⟨s, hs⟩ : ∃ s, P[i] = s := ⟨_, rfl⟩
        simp only [hx4] at d0 d1 d2 d3 d4 d5 d6 e4 it4
        simp only [hx5] at c0 c1 c2 c3 c4 c5 c6 e5 it5
        simp only [hs] at e4 e5 hpp hst
        clear hx4 hx5 hs
        obtain ⟨s4, v4⟩ := x4
        obtain ⟨s5, v5⟩ := x5
        simp only at e4 e5 it4 it5 c0 c1 c2 c3 c4 c5 c6 d0 d1 d2 d3 d4 d5 d6
        subst e4
        subst e5
        obtain ⟨p, ⟨ka, kb, kc, kd⟩, gr, its⟩ := s5
        simp only at it4 it5 hpp hst c0 c1 c2 c3 c4 c5 c6 d0 d1 d2 d3 d4 d5 d6
        obtain ⟨k, hk⟩ : ∃ k, its.length = k := ⟨_, rfl⟩
        have HIT := Lib.hid (And.intro it4 it5)
        obtain ⟨B4, q4, rfl, -⟩ := it4
        obtain ⟨B5, q5, rfl, -⟩ := it5
        simp only [hk] at c6 d6 HIT
        have hk15 : k ≤ 15 := by rw [← hk]; exact hpp.2.1
        have hst2 : cntN (P.take (i + 1)) = m + (1 + k) := by rw [hst, hk]
        have HST := Lib.hid hst2
        have HPZ := Lib.hid hpp.1
        have hi1 : (i : Int) < N := by omega
        have hi2 : ¬ (N : Int) ≤ i := by omega
        have HB0 := Lib.hid hb
        obtain ⟨V, hV⟩ : ∃ V, wr.alloc (.cells #[.string p, .int .i64 ka, .int .i64 kb, .int .u32 kc, .string kd, .bool gr, .slice B5 k q5] 39) = V := ⟨_, rfl⟩
        obtain ⟨nb, hnb⟩ : ∃ n, wr.heap.size = n := ⟨_, rfl⟩
        have hBN : Blk V nb 39 #[.string p, .int .i64 ka, .int .i64 kb, .int .u32 kc, .string kd, .bool gr, .slice B5 k q5] := by rw [← hV, ← hnb]; exact Blk.new _ _ _
        have hba : Below wr.heap.size wr V := by rw [← hV]; exact (Below.refl _ wr).alloc (Nat.le_refl _) _
        have HBA := Lib.hid hba
        have HBN := Lib.hid hBN
        have HBV := Lib.hid (hb.trans (hba.mono hb.size))
        go_upto_region 10 with fail
        clear hV hnb
        have k0 : ∀ mm : Held (Aft V), (HeldW mm).cell? ⟨b4, off4 + i * 7, none⟩ = some (.string p) := fun mm => (Aft.cell mm (Nat.lt_of_lt_of_le hbb4 HBA.out.size)).trans ((cell_belowD HBA.out hbb4).trans d0)
        have k1 : ∀ mm : Held (Aft V), (HeldW mm).cell? ⟨b4, off4 + i * 7 + 1, none⟩ = some (.int .i64 ka) := fun mm => (Aft.cell mm (Nat.lt_of_lt_of_le hbb4 HBA.out.size)).trans ((cell_belowD HBA.out hbb4).trans d1)
        have k2 : ∀ mm : Held (Aft V), (HeldW mm).cell? ⟨b4, off4 + i * 7 + 2, none⟩ = some (.int .i64 kb) := fun mm => (Aft.cell mm (Nat.lt_of_lt_of_le hbb4 HBA.out.size)).trans ((cell_belowD HBA.out hbb4).trans d2)
        have k3 : ∀ mm : Held (Aft V), (HeldW mm).cell? ⟨b4, off4 + i * 7 + 3, none⟩ = some (.int .u32 kc) := fun mm => (Aft.cell mm (Nat.lt_of_lt_of_le hbb4 HBA.out.size)).trans ((cell_belowD HBA.out hbb4).trans d3)
        have k4 : ∀ mm : Held (Aft V), (HeldW mm).cell? ⟨b4, off4 + i * 7 + 4, none⟩ = some (.string kd) := fun mm => (Aft.cell mm (Nat.lt_of_lt_of_le hbb4 HBA.out.size)).trans ((cell_belowD HBA.out hbb4).trans d4)
        have k5 : ∀ mm : Held (Aft V), (HeldW mm).cell? ⟨b4, off4 + i * 7 + 5, none⟩ = some (.bool gr) := fun mm => (Aft.cell mm (Nat.lt_of_lt_of_le hbb4 HBA.out.size)).trans ((cell_belowD HBA.out hbb4).trans d5)
        have k6 : ∀ mm : Held (Aft V), (HeldW mm).cell? ⟨b4, off4 + i * 7 + 6, none⟩ = some (.slice B4 k q4) := fun mm => (Aft.cell mm (Nat.lt_of_lt_of_le hbb4 HBA.out.size)).trans ((cell_belowD HBA.out hbb4).trans d6)
        have j0 : ∀ mm : Held (Aft V), (HeldW mm).cell? ⟨nb, 0, none⟩ = some (.string p) := fun mm => (Aft.cell mm HBN.out.lt).trans (HBN.out.cell 0)
        have j1 : ∀ mm : Held (Aft V), (HeldW mm).cell? ⟨nb, 1, none⟩ = some (.int .i64 ka) := fun mm => (Aft.cell mm HBN.out.lt).trans (HBN.out.cell 1)
        have j2 : ∀ mm : Held (Aft V), (HeldW mm).cell? ⟨nb, 2, none⟩ = some (.int .i64 kb) := fun mm => (Aft.cell mm HBN.out.lt).trans (HBN.out.cell 2)
        have j3 : ∀ mm : Held (Aft V), (HeldW mm).cell? ⟨nb, 3, none⟩ = some (.int .u32 kc) := fun mm => (Aft.cell mm HBN.out.lt).trans (HBN.out.cell 3)
        have j4 : ∀ mm : Held (Aft V), (HeldW mm).cell? ⟨nb, 4, none⟩ = some (.string kd) := fun mm => (Aft.cell mm HBN.out.lt).trans (HBN.out.cell 4)
        have j5 : ∀ mm : Held (Aft V), (HeldW mm).cell? ⟨nb, 5, none⟩ = some (.bool gr) := fun mm => (Aft.cell mm HBN.out.lt).trans (HBN.out.cell 5)
        have j6 : ∀ mm : Held (Aft V), (HeldW mm).cell? ⟨nb, 6, none⟩ = some (.slice B5 k q5) := fun mm => (Aft.cell mm HBN.out.lt).trans (HBN.out.cell 6)
        have HWM := Lib.hid (fun mm : Held (Aft V) => ref16Whole_same (HeldW mm) (.slice B4 k q4) (.slice B5 k q5) its ((HIT.out.1.below (HBA.out.trans ((HeldW_spec mm : Below V.heap.size V (HeldW mm)).mono HBA.out.size))).slv eCSN_len) ((HIT.out.2.below (HBA.out.trans ((HeldW_spec mm : Below V.heap.size V (HeldW mm)).mono HBA.out.size))).slv eCSN_len))
        have HVW := Lib.hid (fun mm : Held (Aft V) => HW5.out.1.trans ((HBV.out.trans ((HeldW_spec mm : Below V.heap.size V (HeldW mm)).mono HBV.out.size)).mono HW5.out.1.size))
        have HIM := Lib.hid (fun mm : Held (Aft V) => inside_any (HeldW mm) p _ gs HPZ.out (HG.out _ (HVW.out mm)).2.2 (by have := HSG.out.1; omega))
        have HJM := Lib.hid (fun mm : Held (Aft V) => inside32_any (HeldW mm) p _ gs (HG.out _ (HVW.out mm)).2.2 HPZ.out)
        obtain ⟨IN, hIN⟩ : ∃ b, insideN gs p = b := ⟨_, rfl⟩
        simp only [hIN] at HIM HJM
        have hne1 := fun W => neq_node32 kd ka kb kc W
        have hne2 := fun W => neq_bool32 gr W
        have hne3 := fun W => neq_bool32 IN W
        have hse : (p.toList != p.toList) = false := by simp
        haveI := Aft.some V
        clear c0 c1 c2 c3 c4 c5 c6 d0 d1 d2 d3 d4 d5 d6 hst hst2 hpp hba hBN hb hk hIN hm
        refine wp_region_class (Aft V) (by kernel_rfl) (by kernel_rfl) (Aft.start V) ?_
        repeat (go_big_quiet_step (first | with_reducible exact held_below Aft.keep (HWM.out _) | with_reducible exact held_below Aft.keep (HIM.out _) | with_reducible exact held_below Aft.keep (HJM.out _)))
        refine wpQuiet_nil ?_
        rintro _ ⟨nn, rfl⟩
        obtain ⟨w6, hw6⟩ : ∃ w6, HeldW nn = w6 := ⟨_, rfl⟩
        have hv6 : Below V.heap.size V w6 := by rw [← hw6]; exact HeldW_spec nn
        have HB6 := Lib.hid (HBV.out.trans (hv6.mono HBV.out.size))
        have n6 := (HBN.out.below hv6 HBN.out.lt).cell 6
        simp only [List.getElem?_toArray, List.getElem?_cons_succ, List.getElem?_cons_zero] at n6
        rw [hw6]
        clear k0 k1 k2 k3 k4 k5 k6 j0 j1 j2 j3 j4 j5 j6 HWM HVW HIM HJM hw6 hv6 this hne1 hne2 hne3 hse
        have w1 : IntKind.i64.wrap (1 + (k : Int)) = ((1 + k : Nat) : Int) := by rw [IntWalk.i64_in _ (by omega)]; omega
        have w2 : IntKind.i64.wrap ((m : Int) + ((1 + k : Nat) : Int)) = ((m + (1 + k) : Nat) : Int) := by rw [IntWalk.i64_in _ (by omega)]; omega
        go_wp2_with fail
        go_roundw
        case rel => exact ⟨i + 1, m + (1 + k), by omega, by go_num, by go_num, HST.out.symm, by omega, HB6.out⟩
        case measure => simp [intOf]; omega
      · obtain rfl : i = N := by omega
        have htk : P.take i = P := List.take_of_length_le (by have := HLN.out.1; omega)
        rw [htk] at hm
        have hcs : m = stepsN P := by rw [hm]; exact cntN_steps P (fun s hs => (HPP.out.1 s hs).2.2)
        have HM := Lib.hid hcs
        have HE := Lib.hid hb
        clear htk hm hcs hb
        generalize wr = w6 at *
        generalize hi' : i = N0 at *
        clear hi'
        have h60 : Below w.heap.size w w6 := HW5.out.1.trans (HE.out.mono HW5.out.1.size)
        have HW6 := Lib.hid (And.intro h60 (And.intro (HW5.out.2.1.below HE.out HW5.out.2.1.lt) (And.intro (HW5.out.2.2.1.below HE.out) (HW5.out.2.2.2.below HE.out))))
        clear h60
        go_upto_region 14 with fail
        have k0 : ∀ m : Held (Aft w6), (HeldW m).cell? ⟨w.heap.size, 0, none⟩ = some (.slice A1 n1 c1) := fun m => (Aft.cell m HW6.out.2.1.lt).trans (HW6.out.2.1.cell 0)
        have k1 : ∀ m : Held (Aft w6), (HeldW m).cell? ⟨w.heap.size, 1, none⟩ = some (.slice A2 n2 c2) := fun m => (Aft.cell m HW6.out.2.1.lt).trans (HW6.out.2.1.cell 1)
        have HC6 := Lib.hid (Aft.start w6)
        refine wp_region_mix (Aft w6) [(0, true), (1, true), (3, true), (4, true), (5, true), (6, true), (2, false), (7, false), (8, true), (9, true)] (by kernel_rfl) (by kernel_rfl) ?_
        simp only [pickP, List.filterMap_cons, List.filterMap_nil, List.getElem?_toArray, List.getElem?_cons_succ, List.getElem?_cons_zero, Option.map_some]
        repeat (apply mix_first; apply Exists.intro; refine ⟨fun m => ?_, HC6.out, ?_⟩; · (go_big_quiet_step (fail); exact wpQuiet_nil rfl))
        refine mix_forced HC6.out ?_
        go_wp2_with fail
        refine (HCG.out w6.drew bt bm bt2 bm2 (HW6.out.2.2.1.below HC6.out) (HW6.out.2.2.2.below HC6.out)).mono ?_
        rintro e w7 ⟨o7, rfl, ho7, hb7⟩
        have HC7 := Lib.hid (show Aft w6 w7 from Aft.keep _ _ HC6.out hb7)
        have H7 := Lib.hid (SlV.of_own ho7 eCSN_len (by decide) : SlV w7 5 eCSN o7 (Q.map fun s => (s.path, s.node)))
        obtain ⟨A7, c7, rfl, -, -, -⟩ := SlV_of_any ho7
        clear ho7 hb7 HC6 HCG
        go_wp2_with fail
        show mixC _ _ _ _ _ _ _
        refine mix_forced HC7.out ?_
        go_wp2_with fail
        refine (HRN.out w7 (HW6.out.1.trans ((HC7.out : Below w6.heap.size w6 w7).mono HW6.out.1.size))).mono ?_
        rintro e w8 ⟨o8, l8, rfl, hR8, hl8⟩
        have hb8 : Below w7.heap.size w7 w8 := hR8.2.2
        have HC8 := Lib.hid (show Aft w6 w8 from Aft.keep _ _ HC7.out hb8)
        have H8 := Lib.hid (And.intro (SlV.of_own hR8.1 eSt_len (by decide) : SlV w8 7 eSt o8 l8) (And.intro hl8 (fun s hs => (by obtain ⟨A, c, e, _⟩ := hR8.2.1 s hs; exact ⟨A, _, c, e⟩ : ∃ A n c, s.2 = .slice A n c) : ∀ s ∈ l8, ∃ A n c, s.2 = .slice A n c)))
        have H78 := Lib.hid (H7.out.below hb8 (Nat.le_refl _))
        obtain ⟨A8, c8, rfl, -, -, -⟩ := SlV_of_any hR8.1
        clear hR8 hl8 hb8 HC7 HRN H7
        go_wp2_with fail
        show mixC _ _ _ _ _ _ _
        repeat (apply mix_first; apply Exists.intro; refine ⟨fun m => ?_, HC8.out, ?_⟩; · (go_big_quiet_step (fail); exact wpQuiet_nil rfl))
        refine mix_nil HC8.out ?_
        clear k0 k1
        have HW8 := Lib.hid (And.intro (HW6.out.1.trans ((HC8.out : Below w6.heap.size w6 w8).mono HW6.out.1.size)) (HE.out.trans ((HC8.out : Below w6.heap.size w6 w8).mono HE.out.size)))
        obtain ⟨K, hK⟩ : ∃ K, Q.length = K := ⟨_, rfl⟩
        have h7K : (Q.map fun s => (s.path, s.node)).length = K := by rw [List.length_map, hK]
        have h8K : l8.length = K := by rw [← hK, ← H8.out.2.1, List.length_map]
        have HKK := Lib.hid (And.intro hK (And.intro h7K h8K))
        have hKb : K ≤ 72 := by rw [← hK]; exact HQL.out
        rw [h7K] at H78
        rw [h8K] at H8
        simp only [List.length_map, hK, h8K]
        clear hK h7K h8K HC8
        go_wp2_with fail
        go_loopw [4, 129] (fun _ iv wr => ∃ i : Nat, i ≤ K ∧ iv = .int .i64 i ∧ Below w8.heap.size w8 wr) (fun _ iv _ => K - (intOf iv).toNat)
        case atStart => exact ⟨0, Nat.zero_le _, rfl, Below.refl _ _⟩
        case round =>
          obtain ⟨i, hi, rfl, hb⟩ := hrel
          by_cases hlt : i < K
          · have hiQ : i < Q.length := by have := HKK.out.1; omega
            have hi7 : i < (Q.map fun s => (s.path, s.node)).length := by have := HKK.out.2.1; omega
            have hi8 : i < l8.length := by have := HKK.out.2.2; omega
            obtain ⟨A', c', hA, _, _, hso⟩ := H78.out.below hb (Nat.le_refl _)
            rw [HKK.out.2.1] at hA
            obtain ⟨rfl, rfl⟩ : A7 = A' ∧ c7 = c' := by injection hA with e1 e2 e3; exact ⟨e1, e3⟩
            clear hA
            obtain ⟨b7, off7, rfl, hbb7, hcs7⟩ := hso (by omega)
            obtain ⟨A', c', hA, _, _, hso⟩ := H8.out.1.below hb (Nat.le_refl _)
            rw [HKK.out.2.2] at hA
            obtain ⟨rfl, rfl⟩ : A8 = A' ∧ c8 = c' := by injection hA with e1 e2 e3; exact ⟨e1, e3⟩
            clear hA
            obtain ⟨b8, off8, rfl, hbb8, hcs8⟩ := hso (by omega)
            have e8 : l8[i].1 = Q[i] := by
              have h := List.getElem_map Prod.fst (l := l8) (i := i) (h := by rw [List.length_map]; exact hi8)
              simp only [H8.out.2.1] at h
              exact h.symm
            obtain ⟨B8, n8, q8, ev8⟩ := H8.out.2.2 _ (List.getElem_mem hi8)
            have d0 := hcs7 i hi7 0 (by omega)
            have d1 := hcs7 i hi7 1 (by omega)
            have d2 := hcs7 i hi7 2 (by omega)
            have d3 := hcs7 i hi7 3 (by omega)
            have d4 := hcs7 i hi7 4 (by omega)
            have c0 := hcs8 i hi8 0 (by omega)
            have c1 := hcs8 i hi8 1 (by omega)
            have c2 := hcs8 i hi8 2 (by omega)
            have c3 := hcs8 i hi8 3 (by omega)
            have c4 := hcs8 i hi8 4 (by omega)
            have c5 := hcs8 i hi8 5 (by omega)
            have c6 := hcs8 i hi8 6 (by omega)
            simp only [eSt, eCSN, List.getElem_map, List.getElem?_cons_succ, List.getElem?_cons_zero, Nat.add_zero] at c0 c1 c2 c3 c4 c5 c6 d0 d1 d2 d3 d4
            rw [ev8] at c6
            clear hcs7 hcs8 hso ev8
            obtain ⟨x8, hx8⟩ : ∃ x, l8[i] = x := ⟨_, rfl⟩
            obtain ⟨s, hs⟩ : ∃ s, Q[i] = s := ⟨_, rfl⟩
            simp only [hx8] at c0 c1 c2 c3 c4 c5 c6 e8
            simp only [hs] at e8 d0 d1 d2 d3 d4
            clear hx8 hs
            obtain ⟨s8, v8⟩ := x8
            simp only at e8 c0 c1 c2 c3 c4 c5 c6
            subst e8
            obtain ⟨p, ⟨ka, kb, kc, kd⟩, gr, its⟩ := s8
            simp only at c0 c1 c2 c3 c4 c5 c6 d0 d1 d2 d3 d4
            have hi1 : (i : Int) < K := by omega
            have hi2 : ¬ (K : Int) ≤ i := by omega
            obtain ⟨V, hV⟩ : ∃ V, wr.alloc (.cells #[.string p, .int .i64 ka, .int .i64 kb, .int .u32 kc, .string kd, .bool gr, .slice B8 n8 q8] 39) = V := ⟨_, rfl⟩
            obtain ⟨nb, hnb⟩ : ∃ n, wr.heap.size = n := ⟨_, rfl⟩
            have hBN : Blk V nb 39 #[.string p, .int .i64 ka, .int .i64 kb, .int .u32 kc, .string kd, .bool gr, .slice B8 n8 q8] := by rw [← hV, ← hnb]; exact Blk.new _ _ _
            have hba : Below wr.heap.size wr V := by rw [← hV]; exact (Below.refl _ wr).alloc (Nat.le_refl _) _
            have HBA := Lib.hid hba
            have HBN := Lib.hid hBN
            have HBV := Lib.hid (hb.trans (hba.mono hb.size))
            go_upto_region 18 with fail
            clear hV hnb
            have k0 : ∀ mm : Held (Aft V), (HeldW mm).cell? ⟨b7, off7 + i * 5, none⟩ = some (.string p) := fun mm => (Aft.cell mm (Nat.lt_of_lt_of_le hbb7 HBA.out.size)).trans ((cell_belowD HBA.out hbb7).trans d0)
            have k1 : ∀ mm : Held (Aft V), (HeldW mm).cell? ⟨b7, off7 + i * 5 + 1, none⟩ = some (.int .i64 ka) := fun mm => (Aft.cell mm (Nat.lt_of_lt_of_le hbb7 HBA.out.size)).trans ((cell_belowD HBA.out hbb7).trans d1)
            have k2 : ∀ mm : Held (Aft V), (HeldW mm).cell? ⟨b7, off7 + i * 5 + 2, none⟩ = some (.int .i64 kb) := fun mm => (Aft.cell mm (Nat.lt_of_lt_of_le hbb7 HBA.out.size)).trans ((cell_belowD HBA.out hbb7).trans d2)
            have k3 : ∀ mm : Held (Aft V), (HeldW mm).cell? ⟨b7, off7 + i * 5 + 3, none⟩ = some (.int .u32 kc) := fun mm => (Aft.cell mm (Nat.lt_of_lt_of_le hbb7 HBA.out.size)).trans ((cell_belowD HBA.out hbb7).trans d3)
            have k4 : ∀ mm : Held (Aft V), (HeldW mm).cell? ⟨b7, off7 + i * 5 + 4, none⟩ = some (.string kd) := fun mm => (Aft.cell mm (Nat.lt_of_lt_of_le hbb7 HBA.out.size)).trans ((cell_belowD HBA.out hbb7).trans d4)
            have j0 : ∀ mm : Held (Aft V), (HeldW mm).cell? ⟨nb, 0, none⟩ = some (.string p) := fun mm => (Aft.cell mm HBN.out.lt).trans (HBN.out.cell 0)
            have j1 : ∀ mm : Held (Aft V), (HeldW mm).cell? ⟨nb, 1, none⟩ = some (.int .i64 ka) := fun mm => (Aft.cell mm HBN.out.lt).trans (HBN.out.cell 1)
            have j2 : ∀ mm : Held (Aft V), (HeldW mm).cell? ⟨nb, 2, none⟩ = some (.int .i64 kb) := fun mm => (Aft.cell mm HBN.out.lt).trans (HBN.out.cell 2)
            have j3 : ∀ mm : Held (Aft V), (HeldW mm).cell? ⟨nb, 3, none⟩ = some (.int .u32 kc) := fun mm => (Aft.cell mm HBN.out.lt).trans (HBN.out.cell 3)
            have j4 : ∀ mm : Held (Aft V), (HeldW mm).cell? ⟨nb, 4, none⟩ = some (.string kd) := fun mm => (Aft.cell mm HBN.out.lt).trans (HBN.out.cell 4)
            have hne1 := fun W => neq_change32 p kd ka kb kc W
            haveI := Aft.some V
            clear c0 c1 c2 c3 c4 c5 c6 d0 d1 d2 d3 d4 hba hBN hb
            refine wp_region_class (Aft V) (by kernel_rfl) (by kernel_rfl) (Aft.start V) ?_
            repeat (go_big_quiet_step (fail))
            refine wpQuiet_nil ?_
            rintro _ ⟨nn, rfl⟩
            have HB9 := Lib.hid (HBV.out.trans ((HeldW_spec nn : Below V.heap.size V (HeldW nn)).mono HBV.out.size))
            clear k0 k1 k2 k3 k4 j0 j1 j2 j3 j4 this hne1
            go_wp2_with fail
            go_roundw
            case rel => exact ⟨i + 1, by omega, by go_num, HB9.out⟩
            case measure => simp [intOf]; omega
          · obtain rfl : i = K := by omega
            have HZ := Lib.hid (And.intro (HW8.out.1.trans (hb.mono HW8.out.1.size)) (HW8.out.2.trans (hb.mono HW8.out.2.size)))
            have HSS := Lib.hid (planSteps_any wr _ l4 (H45.out.1.below HZ.out.2 (Nat.le_refl _)) (by rw [HLN.out.2.1]; omega) (fun s hs => by
              have h9 : s.1 ∈ P := by rw [← H4.out.2.1]; exact List.mem_map.2 ⟨s, hs, rfl⟩
              have := (HPP.out.1 _ h9).2.1
              omega) (fun s hs => by obtain ⟨A, c, e, _⟩ := H45.out.2 s hs; exact ⟨A, c, e⟩))
            rw [H4.out.2.1, ← HM.out] at HSS
            clear hb
            go_wp2_with fail
            refine HSS.out.mono ?_
            rintro e w9 ⟨rfl, hb9⟩
            have HZ9 := Lib.hid (HZ.out.1.trans (hb9.mono HZ.out.1.size))
            clear hb9 HSS
            go_wp2_with fail
            refine (lives32_any _).mono ?_
            rintro e w10 ⟨rfl, hb10⟩
            have HZ10 := Lib.hid (HZ9.out.trans (hb10.mono HZ9.out.size))
            clear hb10
            go_wp2_with fail
            go_ret
            exact ⟨rfl, HZ10.out⟩
end Go.Proofs.YtmpgmgjokliceaaGreatDoor
/- dirfs.target: may something be renamed so? -/
set_option linter.unusedVariables false
set_option linter.unusedSimpArgs false
namespace Sw
open Go.Proofs.YtmpgmgjokliceaaGreatDoor (awayT undT)
def targetT (xs : List NE) (fr tt : ByteArray) : Int :=
  if rightL tt.data.toList = false then 5
  else if (getT xs fr).kind = 0 then 7
  else if fr = tt ∨ inS (upsS tt) fr = true then 1
  else if ¬ (getT xs tt).kind = 0 then 6
  else if parentS tt = ⟨#[]⟩ then 0
  else if (getT xs (parentS tt)).kind = 0 then 7
  else if (getT xs (parentS tt)).kind = 1 then 8
  else 0
def renW (xs : List NE) (fr tt : ByteArray) : Int := if ¬ targetT xs fr tt = 0 then targetT xs fr tt else if ((undT fr xs).all fun e => rightL (mvS fr tt e.1).data.toList) = true then 0 else 4
theorem nodeR_kind {n : Nd} (h : nodeR n = 0) (h0 : ¬ n.kind = 0) : n.kind = 1 ∨ n.kind = 2 := by
  unfold nodeR at h
  by_cases h1 : ¬ n.kind = 0 ∧ ¬ n.kind = 1 ∧ ¬ n.kind = 2
  · rw [if_pos h1] at h; cases h
  · rcases Decidable.em (n.kind = 1) with h2 | h2
    · exact .inl h2
    · right
      exact Decidable.byContradiction fun h3 => h1 ⟨h0, h2, h3⟩
/-- where a rename is let through, all is as it must be -/
theorem ren_of {xs : List NE} {fr tt : ByteArray} (hti : TI xs) (hl : xs.length ≤ 500) (h : renW xs fr tt = 0) : Ren xs fr tt := by
  unfold renW at h
  by_cases ht : targetT xs fr tt = 0
  · rw [if_neg (by simpa using ht)] at h
    by_cases ha : ((undT fr xs).all fun e => rightL (mvS fr tt e.1).data.toList) = true
    · unfold targetT at ht
      by_cases t1 : rightL tt.data.toList = false
      · rw [if_pos t1] at ht; cases ht
      · rw [if_neg t1] at ht
        by_cases t2 : (getT xs fr).kind = 0
        · rw [if_pos t2] at ht; cases ht
        · rw [if_neg t2] at ht
          by_cases t3 : fr = tt ∨ inS (upsS tt) fr = true
          · rw [if_pos t3] at ht; cases ht
          · rw [if_neg t3] at ht
            by_cases t4 : (getT xs tt).kind = 0
            · rw [if_neg (by simpa using t4)] at ht
              refine ⟨hti, hl, by simpa using t1, ⟨_, getT_kind hti.up t2⟩, fun e => t3 (.inl e), fun e => t3 (.inr ((inS_iff _ _).2 e)), fun e he e' => ?_, ?_, fun e he => List.all_eq_true.1 ha e he⟩
              · have := getT_in hti.up he
                rw [e'] at this
                rw [this] at t4
                exact (hti.nod e he).1 t4
              · by_cases t5 : parentS tt = ⟨#[]⟩
                · exact .inl t5
                · rw [if_neg t5] at ht
                  by_cases t6 : (getT xs (parentS tt)).kind = 0
                  · rw [if_pos t6] at ht; cases ht
                  · rw [if_neg t6] at ht
                    by_cases t7 : (getT xs (parentS tt)).kind = 1
                    · rw [if_pos t7] at ht; cases ht
                    · right
                      exact (nodeR_kind (hti.nod _ (getT_kind hti.up t6)).2 t6).resolve_left t7
            · rw [if_pos t4] at ht; cases ht
    · rw [if_neg ha] at h; cases h
  · rw [if_pos ht] at h; exact absurd h ht
theorem ren_zero {xs : List NE} {fr tt : ByteArray} (h : Ren xs fr tt) : renW xs fr tt = 0 := by
  have ht : targetT xs fr tt = 0 := by
    unfold targetT
    obtain ⟨n, hn⟩ := h.had
    have h1 := getT_in h.ti.up hn
    rw [if_neg (by rw [h.rt]; simp), if_neg (by rw [show getT xs fr = n from h1]; exact (h.ti.nod _ hn).1), if_neg (fun hh => hh.elim h.ne (fun e => h.nu ((inS_iff _ _).1 e))), if_neg (by rw [getT_out h.ti.up h.no]; simp [ndZ])]
    rcases h.par with hp | hp
    · rw [if_pos hp]
    · by_cases t5 : parentS tt = ⟨#[]⟩
      · rw [if_pos t5]
      · rw [if_neg t5, if_neg (by rw [hp]; decide), if_neg (by rw [hp]; decide)]
  unfold renW
  rw [if_neg (by simpa using ht), if_pos (List.all_eq_true.2 h.all)]
end Sw
namespace Go.Proofs.YtmpgmgjokliceaaGreatDoor
open Go Go.RowKit
open Sw
end Go.Proofs.YtmpgmgjokliceaaGreatDoor
