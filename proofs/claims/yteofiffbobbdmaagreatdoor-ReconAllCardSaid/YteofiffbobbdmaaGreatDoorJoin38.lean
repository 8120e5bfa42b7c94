/- Several texts, joined for the limit of sixty files; each one opens with its own comment. -/
import Derived.Test.YteofiffbobbdmaaGreatDoorJoin37
import Derived.Test.YteofiffbobbdmaaGreatDoorJoin34
import Derived.Test.YteofiffbobbdmaaGreatDoorJoin12
/- ReconAll: what is decided of all paths of any two trees, and how often each; who stops is told no more. -/
set_option linter.unusedVariables false
set_option linter.unusedSimpArgs false
namespace Sw
theorem decide_fourA (was : Pr) (had : Bool) (a b : Nd) : (decideN was had a b).1 = 0 ∨ (decideN was had a b).1 = 1 ∨ (decideN was had a b).1 = 2 ∨ (decideN was had a b).1 = 3 := by
  unfold decideN
  split
  · exact .inl rfl
  · split
    · exact .inr (.inl rfl)
    · split
      · exact .inr (.inr (.inl rfl))
      · exact .inr (.inr (.inr rfl))
theorem allR_fourA {L : List MkE} {xs ys : List NE} {f : StR} (h : f ∈ allR L xs ys) : f.verdict = 0 ∨ f.verdict = 1 ∨ f.verdict = 2 ∨ f.verdict = 3 := by
  obtain ⟨p, _, rfl⟩ := List.mem_map.1 h
  exact decide_fourA _ _ _ _
end Sw
namespace Go.Proofs.YteofiffbobbdmaaGreatDoor
open Go Go.RowKit Go.Shelf
open Sw
attribute [local go_sem] Oper.semAt_some
/-- the result in a cell, of one bool -/
theorem res_cellR {P : Program} {fn : Func} {p : Tmp} {ty : TypeId} (h : fn.results = #[.cell p ty]) (tmps : Array Value) (w : World) (g : Nat) (t : TypeId) (v : Value)
    (hp : tmps.getD p undef = .pointer (some ⟨g, 0, none⟩)) (hg : Blk w g t #[v]) (hu : P.underlying ty = some .bool) : (results fn tmps).run P w = .ok v w := by
  have hp' : tmps[p]?.getD undef = .pointer (some ⟨g, 0, none⟩) := by simpa using hp
  have hc : w.cell? ⟨g, 0, none⟩ = some v := by have := hg.cell 0; simpa using this
  simp [results, h, hp', asAddr, loadVar, isAgg, run_underlying hu, run_load, hc]
/-- the law's boxes -/
structure BoxA (G : Nat) (u1 u2 v1 v2 : Value) (mo : Nat) (W : World) : Prop where
  base : Blk W G 24 #[u1, u2]
  two : Blk W (G + 1) 57 #[v1, v2]
  most : Blk W (G + 1 + 1) 47 #[.int .u64 mo]
  res : Blk W (G + 1 + 1 + 1) 4 #[.bool false]
theorem BoxA.below {G : Nat} {u1 u2 v1 v2 : Value} {mo : Nat} {W W' : World} (h : BoxA G u1 u2 v1 v2 mo W) (hb : Below W.heap.size W W') : BoxA G u1 u2 v1 v2 mo W' :=
  ⟨h.base.below hb h.base.lt, h.two.below hb h.two.lt, h.most.below hb h.most.lt, h.res.below hb h.res.lt⟩
set_option maxRecDepth 100000 in
set_option maxHeartbeats 8000000 in
theorem reconAll_main (w : World) (u1 u2 : Value) (l1 l2 : List MkE) (h1 : SlV w 6 eCM u1 l1) (h2 : SlV w 6 eCM u2 l2) (hin1 : ∀ m ∈ l1, 0 ≤ m.2.time ∧ m.2.time < 4294967296) (hin2 : ∀ m ∈ l2, 0 ≤ m.2.time ∧ m.2.time < 4294967296)
    (v1 v2 : Value) (xs ys : List NE) (g1 : SlV w 5 eCSN v1 xs) (g2 : SlV w 5 eCSN v2 ys) (hx : ∀ x ∈ xs, x.1.size ≤ maxLen ∧ NdIn x.2) (hy : ∀ x ∈ ys, x.1.size ≤ maxLen ∧ NdIn x.2) (mo : Nat) (hmo : mo < 18446744073709551616) :
    Calls Tryz.prog 5 #[.agg #[u1, u2], .agg #[v1, v2], .int .u64 mo] w fun e w' => e = .returned (.bool true) ∧ Below w.heap.size w w' := by
  obtain ⟨W, hW⟩ : ∃ W, (((w.alloc (.cells #[u1, u2] 24)).alloc (.cells #[v1, v2] 57)).alloc (.cells #[.int .u64 mo] 47)).alloc (.cells #[.bool false] 4) = W := ⟨_, rfl⟩
  have hb0 : Below w.heap.size w W := by rw [← hW]; exact ((((Below.refl _ w).alloc (Nat.le_refl _) _).alloc (by simp) _).alloc (by simp; omega) _).alloc (by simp; omega) _
  have hB0 : Blk W w.heap.size 24 #[u1, u2] := by rw [← hW]; exact ((blk_fst _ _ _ _).alloc _).alloc _
  have hI0 : Blk W (w.heap.size + 1) 57 #[v1, v2] := by rw [← hW]; exact ((blk_snd _ _ _ _).alloc _).alloc _
  have hM0 : Blk W (w.heap.size + 1 + 1) 47 #[.int .u64 mo] := by rw [← hW]; exact (blk_trd _ _ _ _ _).alloc _
  have hR0 : Blk W (w.heap.size + 1 + 1 + 1) 4 #[.bool false] := by rw [← hW]; exact blk_fth _ _ _ _ _ _
  have HLI := Lib.hid (fun W' (hb : Below w.heap.size w W') => light29_any W' u1 u2 l1 l2 (h1.below hb (Nat.le_refl _)) (h2.below hb (Nat.le_refl _)) hin1 hin2 v1 xs (g1.below hb (Nat.le_refl _)) hx)
  have HLJ := Lib.hid (fun W' (hb : Below w.heap.size w W') => light29_any W' u1 u2 l1 l2 (h1.below hb (Nat.le_refl _)) (h2.below hb (Nat.le_refl _)) hin1 hin2 v2 ys (g2.below hb (Nat.le_refl _)) hy)
  have HS := Lib.hid (And.intro (And.intro h1 h2) (And.intro (And.intro g1 g2) (And.intro hx hy)))
  clear hin1 hin2 hx hy
  obtain ⟨A1, c1, rfl, _, _, _⟩ := h1
  obtain ⟨A2, c2, rfl, _, _, _⟩ := h2
  obtain ⟨A3, c3, rfl, _, _, _⟩ := g1
  obtain ⟨A4, c4, rfl, _, _, _⟩ := g2
  obtain ⟨n1, hn1⟩ : ∃ n, l1.length = n := ⟨_, rfl⟩
  obtain ⟨n2, hn2⟩ : ∃ n, l2.length = n := ⟨_, rfl⟩
  obtain ⟨n3, hn3⟩ : ∃ n, xs.length = n := ⟨_, rfl⟩
  obtain ⟨n4, hn4⟩ : ∃ n, ys.length = n := ⟨_, rfl⟩
  have HL := Lib.hid (And.intro (And.intro hn1 hn2) (And.intro hn3 hn4))
  rw [hn1, hn2, hn3] at HLI
  rw [hn1, hn2, hn4] at HLJ
  rw [hn1, hn2, hn3, hn4] at HS
  rw [hn1, hn2, hn3, hn4] at hW
  rw [hn1, hn2] at hB0
  rw [hn3, hn4] at hI0
  rw [hn1, hn2, hn3, hn4]
  clear hn1 hn2 hn3 hn4
  have x0 := hB0.cell 0
  have x1 := hB0.cell 1
  have y0 := hI0.cell 0
  have y1 := hI0.cell 1
  simp only [List.getElem?_toArray, List.getElem?_cons_succ, List.getElem?_cons_zero] at x0 x1 y0 y1
  obtain ⟨G, hG⟩ : ∃ G, w.heap.size = G := ⟨_, rfl⟩
  rw [hG] at hB0 hI0 hM0 hR0 x0 x1 y0 y1
  have HW := Lib.hid (And.intro hW (And.intro hb0 (show BoxA G (.slice A1 n1 c1) (.slice A2 n2 c2) (.slice A3 n3 c3) (.slice A4 n4 c4) mo W from ⟨hB0, hI0, hM0, hR0⟩))); clear hW hb0 hB0 hI0 hM0 hR0
  refine callsIn_wide.1 (?_ : CallsIn Fence.wide 9 _ _ _ _ _)
  refine callsIn_of_wp_marks Tryz.func5 rfl trivial ?_ rfl
  simp only [Tryz.ntmps5, List.size_toArray, List.length_cons, List.length_nil, Nat.reduceAdd, Nat.reduceSub, Array.replicate_succ, Array.replicate_zero, List.push_toArray, List.append_toArray, List.nil_append, List.cons_append]
  refine wpIn_wide.2 ?_
  go_upto_region 1 with fail
  rw [HW.out.1]
  have HG := Lib.hid hG
  try rw [hG]
  clear hG
  go_wp2_with fail
  refine (HLI.out W HW.out.2.1).mono ?_
  rintro e w1 ⟨⟨R, rfl, hR⟩, hb1⟩
  have H1 := Lib.hid (And.intro (HW.out.2.1.trans (hb1.mono HW.out.2.1.size)) (And.intro (HW.out.2.2.below hb1) hR)); clear hb1 hR HLI x0 x1 y0 y1
  cases R with
  | false =>
    go_wp2_with fail
    refine (recon_lives _).mono ?_
    rintro e wZ ⟨rfl, hbZ⟩
    have HZ := Lib.hid (And.intro (H1.out.1.trans (hbZ.mono H1.out.1.size)) (H1.out.2.1.below hbZ)); clear hbZ
    have r0 := HZ.out.2.res.cell 0
    have r1 := HZ.out.2.res.frozen 0
    simp only [List.getElem?_toArray, List.getElem?_cons_zero] at r0
    go_wp2_with fail
    refine ⟨_, res_cellR rfl _ _ (G + 1 + 1 + 1) 4 (.bool true) rfl (HZ.out.2.res.put 0 _) Tryz.underlying4, rfl, ?_⟩
    exact HZ.out.1.setCell (p := ⟨G + 1 + 1 + 1, 0, none⟩) (by have := HG.out; dsimp only; omega) _
  | true =>
    have x0 := H1.out.2.1.base.cell 0
    have x1 := H1.out.2.1.base.cell 1
    have y1 := H1.out.2.1.two.cell 1
    simp only [List.getElem?_toArray, List.getElem?_cons_succ, List.getElem?_cons_zero] at x0 x1 y1
    go_wp2_with fail
    refine (HLJ.out w1 H1.out.1).mono ?_
    rintro e w2 ⟨⟨R, rfl, hR⟩, hb2⟩
    have H2 := Lib.hid (And.intro (H1.out.1.trans (hb2.mono H1.out.1.size)) (And.intro (H1.out.2.1.below hb2) hR)); clear hb2 hR HLJ x0 x1 y1
    cases R with
    | false =>
      go_wp2_with fail
      refine (recon_lives _).mono ?_
      rintro e wZ ⟨rfl, hbZ⟩
      have HZ := Lib.hid (And.intro (H2.out.1.trans (hbZ.mono H2.out.1.size)) (H2.out.2.1.below hbZ)); clear hbZ
      have r0 := HZ.out.2.res.cell 0
      have r1 := HZ.out.2.res.frozen 0
      simp only [List.getElem?_toArray, List.getElem?_cons_zero] at r0
      go_wp2_with fail
      refine ⟨_, res_cellR rfl _ _ (G + 1 + 1 + 1) 4 (.bool true) rfl (HZ.out.2.res.put 0 _) Tryz.underlying4, rfl, ?_⟩
      exact HZ.out.1.setCell (p := ⟨G + 1 + 1 + 1, 0, none⟩) (by have := HG.out; dsimp only; omega) _
    | true =>
      obtain ⟨⟨hl1, hl2, hmz⟩, hxl, hxs, hxp⟩ := H1.out.2.2 (by first | rfl | trivial)
      obtain ⟨-, hyl, hys, hyp⟩ := H2.out.2.2 (by first | rfl | trivial)
      have HLL := Lib.hid (And.intro (And.intro hl1 hl2) (And.intro hmz (And.intro hxl hyl)))
      have HTX := Lib.hid (ti_of_puts (by rw [hxp] : (putsT [] xs).2 = xs))
      have HTY := Lib.hid (ti_of_puts (by rw [hyp] : (putsT [] ys).2 = ys))
      have HPX := Lib.hid (show (∀ x ∈ xs, x.1.size ≤ 90000) ∧ (∀ x ∈ xs, x.2.data.size ≤ maxLen) from ⟨fun x hx => by have := (hxs x hx).1; omega, fun x hx => by have := (hxs x hx).2; unfold maxLen; omega⟩)
      have HPY := Lib.hid (show (∀ x ∈ ys, x.1.size ≤ 90000) ∧ (∀ x ∈ ys, x.2.data.size ≤ maxLen) from ⟨fun x hx => by have := (hys x hx).1; omega, fun x hx => by have := (hys x hx).2; unfold maxLen; omega⟩)
      have HT1 := Lib.hid (fun W' (hb : Below w.heap.size w W') => treeOf_any W' (.slice A3 n3 c3) xs (HS.out.2.1.1.below hb (Nat.le_refl _)) (by omega) (fun x hx => ⟨HPX.out.1 x hx, (HS.out.2.2.1 x hx).2⟩) HTX.out)
      have HT2 := Lib.hid (fun W' (hb : Below w.heap.size w W') => treeOf_any W' (.slice A4 n4 c4) ys (HS.out.2.1.2.below hb (Nat.le_refl _)) (by omega) (fun x hx => ⟨HPY.out.1 x hx, (HS.out.2.2.2 x hx).2⟩) HTY.out)
      clear hl1 hl2 hmz hxl hxs hxp hyl hys hyp
      have y0 := H2.out.2.1.two.cell 0
      simp only [List.getElem?_toArray, List.getElem?_cons_succ, List.getElem?_cons_zero] at y0
      go_wp2_with fail
      refine (HT1.out w2 H2.out.1).mono ?_
      rintro e w3 ⟨bt, bm, rfl, hT, -, -, hb3⟩
      have H3 := Lib.hid (And.intro (H2.out.1.trans (hb3.mono H2.out.1.size)) (And.intro (H2.out.2.1.below hb3) hT)); clear hb3 hT HT1 y0
      have y1 := H3.out.2.1.two.cell 1
      simp only [List.getElem?_toArray, List.getElem?_cons_succ, List.getElem?_cons_zero] at y1
      go_wp2_with fail
      refine (HT2.out w3 H3.out.1).mono ?_
      rintro e w4 ⟨bt2, bm2, rfl, hT2, -, -, hb4⟩
      have H4 := Lib.hid (And.intro (H3.out.1.trans (hb4.mono H3.out.1.size)) (And.intro (H3.out.2.1.below hb4) (And.intro (H3.out.2.2.below hb4) hT2))); clear hb4 hT2 HT2 y1
      have hZ : ∀ m ∈ l1 ++ l2, m.1.size ≤ 90000 := fun m hm => by have := HLL.out.2.1 m hm; omega
      have HAL := Lib.hid (fun W' (hb : Below w.heap.size w W') (k1 : TreeAt W' bt bm xs) (k2 : TreeAt W' bt2 bm2 ys) => reconAll_any W' (.slice A1 n1 c1) (.slice A2 n2 c2) l1 l2 bt bm bt2 bm2 xs ys (HS.out.1.1.below hb (Nat.le_refl _)) (HS.out.1.2.below hb (Nat.le_refl _)) (by have := HLL.out.1.1; omega) (by have := HLL.out.1.2; omega) (fun m hm => hZ m (List.mem_append_left _ hm)) (fun m hm => hZ m (List.mem_append_right _ hm)) k1 k2 (by have := HLL.out.2.2.1; omega) (by have := HLL.out.2.2.2; omega) HPX.out.2 HPY.out.2)
      have HRL := Lib.hid (fun W' (hb : Below w.heap.size w W') => refAllR_any W' (.slice A1 n1 c1) (.slice A2 n2 c2) l1 l2 (HS.out.1.1.below hb (Nat.le_refl _)) (HS.out.1.2.below hb (Nat.le_refl _)) (by have := HLL.out.1.1; omega) (by have := HLL.out.1.2; omega) hZ (.slice A3 n3 c3) (.slice A4 n4 c4) xs ys (HS.out.2.1.1.below hb (Nat.le_refl _)) (HS.out.2.1.2.below hb (Nat.le_refl _)) (by have := HLL.out.2.2.1; omega) (by have := HLL.out.2.2.2; omega) (fun m hm => (List.mem_append.1 hm).elim (HPX.out.1 m) (HPY.out.1 m)) HTX.out.up HTY.out.up HPX.out.2 HPY.out.2)
      have HTE := Lib.hid (fun W' (hb : Below w.heap.size w W') gB gl gr (hE : EachAt W' gB gl gr bt bm bt2 bm2 (.slice A1 n1 c1) (.slice A2 n2 c2) xs ys) => each_tells 8 (by omega) w.heap.size W' hb.size gB gl gr bt bm bt2 bm2 (.slice A1 n1 c1) (.slice A2 n2 c2) l1 l2 xs ys hE (fun V hV => HS.out.1.1.below (hb.trans hV) (Nat.le_refl _)) (fun V hV => HS.out.1.2.below (hb.trans hV) (Nat.le_refl _)) (by have := HLL.out.1.1; omega) (by have := HLL.out.1.2; omega) (fun m hm => hZ m (List.mem_append_left _ hm)) (fun m hm => hZ m (List.mem_append_right _ hm)) (by have := HLL.out.2.2.1; omega) (by have := HLL.out.2.2.2; omega) HPX.out.2 HPY.out.2)
      clear hZ
      have hfour : ∀ f ∈ allR (l1 ++ l2) xs ys, f.verdict = 0 ∨ f.verdict = 1 ∨ f.verdict = 2 ∨ f.verdict = 3 := fun f hf => allR_fourA hf
      have hlen : (allR (l1 ++ l2) xs ys).length ≤ 1000 := by
        unfold allR
        rw [List.length_map]
        have := HLL.out
        exact Nat.le_trans (pathsS_len _) (by simp only [List.length_append, List.length_map]; omega)
      generalize allR (l1 ++ l2) xs ys = ans at *
      obtain ⟨n, hn⟩ : ∃ n, ans.length = n := ⟨_, rfl⟩
      rw [hn] at hlen
      have HN := Lib.hid (And.intro hn hfour)
      clear hn hfour HTX HTY HPX HPY HLL HL
      go_upto_region 5 with fail
      go_cut [13, 14] from 47 to 56 (fun a b wx => ∃ (g : Nat) (A5 A6 : Option Addr) (c5 c6 : Nat), a = .pointer (some ⟨g, 0, none⟩) ∧ b = .slice A6 n c6 ∧ GotR w4 n ans g A5 A6 c5 c6 wx)
      case first =>
        have x0 := H4.out.2.1.base.cell 0
        have x1 := H4.out.2.1.base.cell 1
        have y0 := H4.out.2.1.two.cell 0
        have y1 := H4.out.2.1.two.cell 1
        simp only [List.getElem?_toArray, List.getElem?_cons_succ, List.getElem?_cons_zero] at x0 x1 y0 y1
        have k0 : ∀ m : Held (Aft w4), (HeldW m).cell? ⟨G, 0, none⟩ = some (.slice A1 n1 c1) := fun m => (Aft.cell m H4.out.2.1.base.lt).trans x0
        have k1 : ∀ m : Held (Aft w4), (HeldW m).cell? ⟨G, 1, none⟩ = some (.slice A2 n2 c2) := fun m => (Aft.cell m H4.out.2.1.base.lt).trans x1
        have k2 : ∀ m : Held (Aft w4), (HeldW m).cell? ⟨G + 1, 0, none⟩ = some (.slice A3 n3 c3) := fun m => (Aft.cell m H4.out.2.1.two.lt).trans y0
        have k3 : ∀ m : Held (Aft w4), (HeldW m).cell? ⟨G + 1, 1, none⟩ = some (.slice A4 n4 c4) := fun m => (Aft.cell m H4.out.2.1.two.lt).trans y1
        have HC0 := Lib.hid (Aft.start w4)
        have HAL4 := Lib.hid (fun W' (h : Aft w4 W') => HAL.out W' (H4.out.1.trans (h.mono H4.out.1.size)) (H4.out.2.2.1.below h) (H4.out.2.2.2.below h))
        have HRL4 := Lib.hid (fun W' (h : Aft w4 W') => HRL.out W' (H4.out.1.trans (h.mono H4.out.1.size)))
        clear x0 x1 y0 y1
        refine wp_region_mixT (Aft w4) (.first 0 (.first 1 (.first 2 (.first 4 (.first 5 (.first 6 (.first 7 (.first 8 (.two 3 (.two 9 (.forced 10 (.forced 11 (.first 12 .nil))) 10 (.forced 9 (.forced 11 (.first 12 .nil)))) 10 (.forced 3 (.forced 9 (.forced 11 (.first 12 .nil))))))))))))) (by kernel_rfl) (by kernel_rfl) ?_
        simp only [pickT, List.getElem?_toArray, List.getElem?_cons_succ, List.getElem?_cons_zero]
        repeat (apply mixT_first; apply Exists.intro; refine ⟨fun m => ?_, HC0.out, ?_⟩; · (go_big_quiet_step (fail); exact wpQuiet_nil rfl))
        clear k0 k1 k2 k3
        refine mixT_two HC0.out ?_ ?_
        · go_wp2_with fail
          refine (HAL4.out _ HC0.out).mono ?_
          rintro e w5 ⟨u, rfl, ho, hb5⟩
          have ho5 := own_wide ho HC0.out.size
          rw [HN.out.1] at ho5
          obtain ⟨A5, c5, rfl, hc5, -, -⟩ := SlV_of_any ho5
          have H5 := Lib.hid (And.intro (show Aft w4 w5 from Aft.keep _ _ HC0.out hb5) ho5)
          clear ho ho5 hb5 HAL4
          go_wp2_with fail
          show mixT _ _ _ _ _ _ _
          refine mixT_two H5.out.1 ?_ ?_
          · go_wp2_with fail
            refine (HRL4.out _ H5.out.1).mono ?_
            rintro e w6 ⟨⟨u, rfl, ho⟩, hb6⟩
            have ho6 := own_wide ho H5.out.1.size
            rw [HN.out.1] at ho6
            obtain ⟨A6, c6, rfl, hc6, -, -⟩ := SlV_of_any ho6
            have H6 := Lib.hid (And.intro (show Aft w4 w6 from Aft.keep _ _ H5.out.1 hb6) (And.intro (own_kept H5.out.2 hb6) ho6))
            clear ho ho6 hb6 H5 HRL4
            go_wp2_with fail
            show mixT _ _ _ _ _ _ _
            refine mixT_forced H6.out.1 ?_
            go_wp2_with fail
            show mixT _ _ _ _ _ _ _
            have hba : Below w6.heap.size w6 (w6.alloc (.cells #[.slice A5 n c5] 58)) := (Below.refl _ w6).alloc (Nat.le_refl _) _
            refine mixT_forced (H6.out.1.alloc H6.out.1.size _) ?_
            go_wp2_with fail
            show mixT _ _ _ _ _ _ _
            have hC7 : Aft w4 (w6.alloc (.cells #[.slice A5 n c5] 58)) := H6.out.1.alloc H6.out.1.size _
            apply mixT_first; apply Exists.intro; refine ⟨fun m => ?_, hC7, ?_⟩; · (go_big_quiet_step (fail); exact wpQuiet_nil rfl)
            refine mixT_nil hC7 ?_
            go_wp2_with fail
            go_meet
            exact ⟨w6.heap.size, A5, A6, c5, c6, rfl, rfl, Blk.new _ _ _, own_kept H6.out.2.1 hba, own_kept H6.out.2.2 hba, hC7, H6.out.1.size⟩
          · go_wp2_with fail
            show mixT _ _ _ _ _ _ _
            obtain ⟨V0, hV0⟩ : ∃ V0, w5.alloc (.cells #[.slice none 0 0] 58) = V0 := ⟨_, rfl⟩
            obtain ⟨g, hg⟩ : ∃ g, w5.heap.size = g := ⟨_, rfl⟩
            have hBg : Blk V0 g 58 #[.slice none 0 0] := by rw [← hV0, ← hg]; exact Blk.new _ _ _
            have hba : Below w5.heap.size w5 V0 := by rw [← hV0]; exact (Below.refl _ w5).alloc (Nat.le_refl _) _
            have hbV0 : Aft w4 V0 := Aft.keep _ _ H5.out.1 hba
            have hgw : w4.heap.size ≤ g := by rw [← hg]; exact H5.out.1.size
            have hoV := own_kept H5.out.2 hba
            rw [hV0, hg]
            clear hV0 hg hba
            refine mixT_forced hbV0 ?_
            go_wp2_with fail
            refine (HRL4.out _ hbV0).mono ?_
            rintro e V ⟨⟨u, rfl, ho⟩, hb6⟩
            have ho6 := own_wide ho hbV0.size
            rw [HN.out.1] at ho6
            obtain ⟨A6, c6, rfl, hc6, -, -⟩ := SlV_of_any ho6
            have HV := Lib.hid (And.intro (hBg.below hb6 hBg.lt) (And.intro (show Aft w4 V from Aft.keep _ _ hbV0 hb6) (And.intro (own_kept hoV hb6) (And.intro ho6 hgw))))
            clear ho ho6 hb6 hBg hbV0 hgw hoV HRL4 H5
            go_wp2_with fail
            show mixT _ _ _ _ _ _ _
            have z0 := HV.out.1.cell 0
            have fz0 := HV.out.1.frozen 0
            simp only [List.getElem?_toArray, List.getElem?_cons_zero] at z0
            refine mixT_forced HV.out.2.1 ?_
            go_wp2_with fail
            show mixT _ _ _ _ _ _ _
            obtain ⟨VF, hVF⟩ : ∃ VF, V.setCell ⟨g, 0, none⟩ (.slice A5 n c5) = VF := ⟨_, rfl⟩
            rw [hVF]
            have hBF : Blk VF g 58 #[.slice A5 n c5] := by rw [← hVF]; exact HV.out.1.put 0 _
            have hbF : Aft w4 VF := by rw [← hVF]; exact HV.out.2.1.setCell (p := ⟨g, 0, none⟩) HV.out.2.2.2.2 _
            have hoF : VF.ownsRow w4.heap.size 64 11 (.slice A5 n c5) n (ans.flatMap eCR) := by rw [← hVF]; exact HV.out.2.2.1.kept (grown_put (grown_refl V (some g)) 0 _) (.inr (own_ne_blk HV.out.2.2.1 HV.out.1 (by decide)))
            have hoG : VF.ownsRow w4.heap.size 63 11 (.slice A6 n c6) n (ans.flatMap eCR) := by rw [← hVF]; exact HV.out.2.2.2.1.kept (grown_put (grown_refl V (some g)) 0 _) (.inr (own_ne_blk HV.out.2.2.2.1 HV.out.1 (by decide)))
            have HF := Lib.hid (And.intro hBF (And.intro hoF hoG))
            have hgw := HV.out.2.2.2.2
            clear hVF z0 fz0 hBF hoF hoG
            apply mixT_first; apply Exists.intro; refine ⟨fun m => ?_, hbF, ?_⟩; · (go_big_quiet_step (fail); exact wpQuiet_nil rfl)
            refine mixT_nil hbF ?_
            go_wp2_with fail
            go_meet
            exact ⟨g, A5, A6, c5, c6, rfl, rfl, HF.out.1, HF.out.2.1, HF.out.2.2, hbF, hgw⟩
        · go_wp2_with fail
          show mixT _ _ _ _ _ _ _
          obtain ⟨V0, hV0⟩ : ∃ V0, (w4.alloc (.cells #[.slice none 0 0] 58)).drew = V0 := ⟨_, rfl⟩
          obtain ⟨g, hg⟩ : ∃ g, w4.heap.size = g := ⟨_, rfl⟩
          have hBg : Blk V0 g 58 #[.slice none 0 0] := by rw [← hV0, ← hg]; exact (Blk.new w4 _ _).drew
          have hbV0 : Aft w4 V0 := by rw [← hV0]; exact ((Below.refl _ w4).alloc (Nat.le_refl _) _).drew
          have hgw : w4.heap.size ≤ g := Nat.le_of_eq hg
          rw [hV0, hg]
          clear hV0 hg
          refine mixT_forced hbV0 ?_
          go_wp2_with fail
          refine (HAL4.out _ hbV0).mono ?_
          rintro e w5 ⟨u, rfl, ho, hb5⟩
          have ho5 := own_wide ho hbV0.size
          rw [HN.out.1] at ho5
          obtain ⟨A5, c5, rfl, hc5, -, -⟩ := SlV_of_any ho5
          have H5 := Lib.hid (And.intro (hBg.below hb5 hBg.lt) (And.intro (show Aft w4 w5 from Aft.keep _ _ hbV0 hb5) ho5))
          clear ho ho5 hb5 HAL4 hBg hbV0
          go_wp2_with fail
          show mixT _ _ _ _ _ _ _
          refine mixT_forced H5.out.2.1 ?_
          go_wp2_with fail
          refine (HRL4.out _ H5.out.2.1).mono ?_
          rintro e V ⟨⟨u, rfl, ho⟩, hb6⟩
          have ho6 := own_wide ho H5.out.2.1.size
          rw [HN.out.1] at ho6
          obtain ⟨A6, c6, rfl, hc6, -, -⟩ := SlV_of_any ho6
          have HV := Lib.hid (And.intro (H5.out.1.below hb6 H5.out.1.lt) (And.intro (show Aft w4 V from Aft.keep _ _ H5.out.2.1 hb6) (And.intro (own_kept H5.out.2.2 hb6) (And.intro ho6 hgw))))
          clear ho ho6 hb6 hgw HRL4 H5
          go_wp2_with fail
          show mixT _ _ _ _ _ _ _
          have z0 := HV.out.1.cell 0
          have fz0 := HV.out.1.frozen 0
          simp only [List.getElem?_toArray, List.getElem?_cons_zero] at z0
          refine mixT_forced HV.out.2.1 ?_
          go_wp2_with fail
          show mixT _ _ _ _ _ _ _
          obtain ⟨VF, hVF⟩ : ∃ VF, V.setCell ⟨g, 0, none⟩ (.slice A5 n c5) = VF := ⟨_, rfl⟩
          rw [hVF]
          have hBF : Blk VF g 58 #[.slice A5 n c5] := by rw [← hVF]; exact HV.out.1.put 0 _
          have hbF : Aft w4 VF := by rw [← hVF]; exact HV.out.2.1.setCell (p := ⟨g, 0, none⟩) HV.out.2.2.2.2 _
          have hoF : VF.ownsRow w4.heap.size 64 11 (.slice A5 n c5) n (ans.flatMap eCR) := by rw [← hVF]; exact HV.out.2.2.1.kept (grown_put (grown_refl V (some g)) 0 _) (.inr (own_ne_blk HV.out.2.2.1 HV.out.1 (by decide)))
          have hoG : VF.ownsRow w4.heap.size 63 11 (.slice A6 n c6) n (ans.flatMap eCR) := by rw [← hVF]; exact HV.out.2.2.2.1.kept (grown_put (grown_refl V (some g)) 0 _) (.inr (own_ne_blk HV.out.2.2.2.1 HV.out.1 (by decide)))
          have HF := Lib.hid (And.intro hBF (And.intro hoF hoG))
          have hgw := HV.out.2.2.2.2
          clear hVF z0 fz0 hBF hoF hoG
          apply mixT_first; apply Exists.intro; refine ⟨fun m => ?_, hbF, ?_⟩; · (go_big_quiet_step (fail); exact wpQuiet_nil rfl)
          refine mixT_nil hbF ?_
          go_wp2_with fail
          go_meet
          exact ⟨g, A5, A6, c5, c6, rfl, rfl, HF.out.1, HF.out.2.1, HF.out.2.2, hbF, hgw⟩
      case rest =>
        obtain ⟨g, A5, A6, c5, c6, rfl, rfl, hGot⟩ := hcut
        generalize wc = w5 at *
        have hb5 := hGot.2.2.2.1
        have hgn : w4.heap.size ≤ w5.heap.size := hb5.size
        have hba : Below w5.heap.size w5 (w5.alloc (.cells #[.int .i64 0, .int .i64 0, .int .i64 0, .int .i64 0] 34)) := (Below.refl _ w5).alloc (Nat.le_refl _) _
        have H5 := Lib.hid (And.intro (Blk.new w5 34 #[.int .i64 0, .int .i64 0, .int .i64 0, .int .i64 0]) (hGot.below hba))
        clear hGot hb5 hba
        go_wp2_with fail
        obtain ⟨gn, hgnE⟩ : ∃ gn, w5.heap.size = gn := ⟨_, rfl⟩
        obtain ⟨w6, hw6⟩ : ∃ w6, w5.alloc (.cells #[.int .i64 0, .int .i64 0, .int .i64 0, .int .i64 0] 34) = w6 := ⟨_, rfl⟩
        rw [hgnE, hw6] at H5 ⊢
        rw [hgnE] at hgn
        have HGN := Lib.hid hgn
        clear hgnE hw6 hgn
        go_loopw [59] (fun iv wr => ∃ i : Nat, iv = .int .i64 i ∧ i ≤ n ∧ Blk wr gn 34 #[.int .i64 (cntR 0 (ans.take i)), .int .i64 (cntR 1 (ans.take i)), .int .i64 (cntR 2 (ans.take i)), .int .i64 (cntR 3 (ans.take i))] ∧ GotR w4 n ans g A5 A6 c5 c6 wr) (fun iv _ => n - (intOf iv).toNat)
        case atStart => exact ⟨0, rfl, Nat.zero_le _, H5.out.1, H5.out.2⟩
        case round =>
          obtain ⟨i, rfl, hi, hB, hGt⟩ := hrel
          by_cases hlt : i < n
          · have hiA : i < ans.length := by have := HN.out.1; omega
            have hoA := hGt.2.1
            have hoB := hGt.2.2.1
            rw [← HN.out.1] at hoA hoB
            obtain ⟨A', c', hA', _, _, hso⟩ := SlV.of_own (l := ans) hoA eCR_len (by decide)
            obtain ⟨B', k', hB', _, _, hsb⟩ := SlV.of_own (l := ans) hoB eCR_len (by decide)
            obtain ⟨rfl, rfl⟩ : A5 = A' ∧ c5 = c' := by injection hA' with e1 e2 e3; exact ⟨e1, e3⟩
            obtain ⟨rfl, rfl⟩ : A6 = B' ∧ c6 = k' := by injection hB' with e1 e2 e3; exact ⟨e1, e3⟩
            clear hA' hB' hoA hoB
            obtain ⟨b, off, rfl, hbb, hcs⟩ := hso (by omega)
            obtain ⟨b', off', rfl, hbb', hds⟩ := hsb (by omega)
            have cc0 := hcs i hiA 0 (by omega)
            have cc1 := hcs i hiA 1 (by omega)
            have cc2 := hcs i hiA 2 (by omega)
            have cc3 := hcs i hiA 3 (by omega)
            have cc4 := hcs i hiA 4 (by omega)
            have cc5 := hcs i hiA 5 (by omega)
            have cc6 := hcs i hiA 6 (by omega)
            have cc7 := hcs i hiA 7 (by omega)
            have cc8 := hcs i hiA 8 (by omega)
            have cc9 := hcs i hiA 9 (by omega)
            have cc10 := hcs i hiA 10 (by omega)
            simp only [eCR, List.getElem?_cons_succ, List.getElem?_cons_zero, Nat.add_zero] at cc0 cc1 cc2 cc3 cc4 cc5 cc6 cc7 cc8 cc9 cc10
            have dd0 := hds i hiA 0 (by omega)
            have dd1 := hds i hiA 1 (by omega)
            have dd2 := hds i hiA 2 (by omega)
            have dd3 := hds i hiA 3 (by omega)
            have dd4 := hds i hiA 4 (by omega)
            have dd5 := hds i hiA 5 (by omega)
            have dd6 := hds i hiA 6 (by omega)
            have dd7 := hds i hiA 7 (by omega)
            have dd8 := hds i hiA 8 (by omega)
            have dd9 := hds i hiA 9 (by omega)
            have dd10 := hds i hiA 10 (by omega)
            simp only [eCR, List.getElem?_cons_succ, List.getElem?_cons_zero, Nat.add_zero] at dd0 dd1 dd2 dd3 dd4 dd5 dd6 dd7 dd8 dd9 dd10
            clear hcs hds hso hsb
            have hi1 : (i : Int) < n := by omega
            have hd : decide ((n : Int) ≤ i) = false := by rw [decide_eq_false_iff_not]; omega
            have hd2 : decide (n ≤ i) = false := by rw [decide_eq_false_iff_not]; omega
            have hfv := HN.out.2 _ (List.getElem_mem hiA)
            have e0 := cntR_step 0 ans i hiA
            have e1 := cntR_step 1 ans i hiA
            have e2 := cntR_step 2 ans i hiA
            have e3 := cntR_step 3 ans i hiA
            have b0 := cntR_le 0 (ans.take i)
            have b1 := cntR_le 1 (ans.take i)
            have b2 := cntR_le 2 (ans.take i)
            have b3 := cntR_le 3 (ans.take i)
            rw [List.length_take] at b0 b1 b2 b3
            obtain ⟨⟨q, v, cl, ⟨ak, am, at', ad⟩, ⟨ck, cm, ct, cd⟩⟩, hx⟩ : ∃ x, ans[i] = x := ⟨_, rfl⟩
            simp only [hx] at cc0 cc1 cc2 cc3 cc4 cc5 cc6 cc7 cc8 cc9 cc10 dd0 dd1 dd2 dd3 dd4 dd5 dd6 dd7 dd8 dd9 dd10 hfv e0 e1 e2 e3
            clear hx
            generalize cntR 0 (ans.take i) = a0 at *
            generalize cntR 1 (ans.take i) = a1 at *
            generalize cntR 2 (ans.take i) = a2 at *
            generalize cntR 3 (ans.take i) = a3 at *
            have hNE := ne_stepS q ad cd v cl ak am at' ck cm ct
            have kg : ∀ m : Held (Aft wr), (HeldW m).cell? ⟨g, 0, none⟩ = some (.slice (some ⟨b, off, none⟩) n c5) := fun m => (Aft.cell m hGt.1.lt).trans (hGt.1.cell 0)
            have kc0 : ∀ m : Held (Aft wr), (HeldW m).cell? ⟨b, off + i * 11, none⟩ = some (.string q) := fun m => (Aft.cell m hbb).trans cc0
            have kc1 : ∀ m : Held (Aft wr), (HeldW m).cell? ⟨b, off + i * 11 + 1, none⟩ = some (.int .i64 v) := fun m => (Aft.cell m hbb).trans cc1
            have kc2 : ∀ m : Held (Aft wr), (HeldW m).cell? ⟨b, off + i * 11 + 2, none⟩ = some (.int .i64 cl) := fun m => (Aft.cell m hbb).trans cc2
            have kc3 : ∀ m : Held (Aft wr), (HeldW m).cell? ⟨b, off + i * 11 + 3, none⟩ = some (.int .i64 ak) := fun m => (Aft.cell m hbb).trans cc3
            have kc4 : ∀ m : Held (Aft wr), (HeldW m).cell? ⟨b, off + i * 11 + 4, none⟩ = some (.int .i64 am) := fun m => (Aft.cell m hbb).trans cc4
            have kc5 : ∀ m : Held (Aft wr), (HeldW m).cell? ⟨b, off + i * 11 + 5, none⟩ = some (.int .u32 at') := fun m => (Aft.cell m hbb).trans cc5
            have kc6 : ∀ m : Held (Aft wr), (HeldW m).cell? ⟨b, off + i * 11 + 6, none⟩ = some (.string ad) := fun m => (Aft.cell m hbb).trans cc6
            have kc7 : ∀ m : Held (Aft wr), (HeldW m).cell? ⟨b, off + i * 11 + 7, none⟩ = some (.int .i64 ck) := fun m => (Aft.cell m hbb).trans cc7
            have kc8 : ∀ m : Held (Aft wr), (HeldW m).cell? ⟨b, off + i * 11 + 8, none⟩ = some (.int .i64 cm) := fun m => (Aft.cell m hbb).trans cc8
            have kc9 : ∀ m : Held (Aft wr), (HeldW m).cell? ⟨b, off + i * 11 + 9, none⟩ = some (.int .u32 ct) := fun m => (Aft.cell m hbb).trans cc9
            have kc10 : ∀ m : Held (Aft wr), (HeldW m).cell? ⟨b, off + i * 11 + 10, none⟩ = some (.string cd) := fun m => (Aft.cell m hbb).trans cc10
            have kd0 : ∀ m : Held (Aft wr), (HeldW m).cell? ⟨b', off' + i * 11, none⟩ = some (.string q) := fun m => (Aft.cell m hbb').trans dd0
            have kd1 : ∀ m : Held (Aft wr), (HeldW m).cell? ⟨b', off' + i * 11 + 1, none⟩ = some (.int .i64 v) := fun m => (Aft.cell m hbb').trans dd1
            have kd2 : ∀ m : Held (Aft wr), (HeldW m).cell? ⟨b', off' + i * 11 + 2, none⟩ = some (.int .i64 cl) := fun m => (Aft.cell m hbb').trans dd2
            have kd3 : ∀ m : Held (Aft wr), (HeldW m).cell? ⟨b', off' + i * 11 + 3, none⟩ = some (.int .i64 ak) := fun m => (Aft.cell m hbb').trans dd3
            have kd4 : ∀ m : Held (Aft wr), (HeldW m).cell? ⟨b', off' + i * 11 + 4, none⟩ = some (.int .i64 am) := fun m => (Aft.cell m hbb').trans dd4
            have kd5 : ∀ m : Held (Aft wr), (HeldW m).cell? ⟨b', off' + i * 11 + 5, none⟩ = some (.int .u32 at') := fun m => (Aft.cell m hbb').trans dd5
            have kd6 : ∀ m : Held (Aft wr), (HeldW m).cell? ⟨b', off' + i * 11 + 6, none⟩ = some (.string ad) := fun m => (Aft.cell m hbb').trans dd6
            have kd7 : ∀ m : Held (Aft wr), (HeldW m).cell? ⟨b', off' + i * 11 + 7, none⟩ = some (.int .i64 ck) := fun m => (Aft.cell m hbb').trans dd7
            have kd8 : ∀ m : Held (Aft wr), (HeldW m).cell? ⟨b', off' + i * 11 + 8, none⟩ = some (.int .i64 cm) := fun m => (Aft.cell m hbb').trans dd8
            have kd9 : ∀ m : Held (Aft wr), (HeldW m).cell? ⟨b', off' + i * 11 + 9, none⟩ = some (.int .u32 ct) := fun m => (Aft.cell m hbb').trans dd9
            have kd10 : ∀ m : Held (Aft wr), (HeldW m).cell? ⟨b', off' + i * 11 + 10, none⟩ = some (.string cd) := fun m => (Aft.cell m hbb').trans dd10
            have HR := Lib.hid (And.intro hB hGt)
            have HD1 := Lib.hid (And.intro dd1 hbb')
            clear hB hGt cc0 cc1 cc2 cc3 cc4 cc5 cc6 cc7 cc8 cc9 cc10 dd0 dd1 dd2 dd3 dd4 dd5 dd6 dd7 dd8 dd9 dd10
            go_upto_region 10 with fail
            haveI := Aft.some wr
            refine wp_region_class (Aft wr) (by kernel_rfl) (by kernel_rfl) (Aft.start wr) ?_
            repeat (go_big_quiet_step (fail))
            refine wpQuiet_nil ?_
            rintro _ ⟨nn, rfl⟩
            have hW1 : Below wr.heap.size wr (HeldW nn) := HeldW_spec nn
            generalize HeldW nn = W1 at *
            have H7 := Lib.hid (And.intro (HR.out.1.below hW1 HR.out.1.lt) (HR.out.2.below hW1))
            have dd1 := (hW1.cell (p := ⟨b', off' + i * 11 + 1, none⟩) HD1.out.2).trans HD1.out.1
            clear hW1 nn kg hNE kc0 kd0 kc1 kd1 kc2 kd2 kc3 kd3 kc4 kd4 kc5 kd5 kc6 kd6 kc7 kd7 kc8 kd8 kc9 kd9 kc10 kd10 HR HD1
            have z0 := H7.out.1.cell 0
            have z1 := H7.out.1.cell 1
            have z2 := H7.out.1.cell 2
            have z3 := H7.out.1.cell 3
            simp only [List.getElem?_toArray, List.getElem?_cons_succ, List.getElem?_cons_zero] at z0 z1 z2 z3
            have f0 := H7.out.1.frozen 0
            have f1 := H7.out.1.frozen 1
            have f2 := H7.out.1.frozen 2
            have f3 := H7.out.1.frozen 3
            rcases hfv with rfl | rfl | rfl | rfl
            · simp only [if_pos, reduceIte, Int.reduceEq, Int.add_zero] at e0 e1 e2 e3
              have hwr : IntKind.i64.wrap (a0 + 1) = a0 + 1 := IntWalk.i64_in _ (by omega)
              have HE := Lib.hid (And.intro e0 (And.intro e1 (And.intro e2 e3)))
              clear e0 e1 e2 e3
              go_wp2_with fail
              go_roundw
              case rel =>
                refine ⟨i + 1, by go_num, by omega, ?_, H7.out.2.put H7.out.1 HGN.out (by decide) (by decide) (by decide) 0 _⟩
                rw [HE.out.1, HE.out.2.1, HE.out.2.2.1, HE.out.2.2.2]
                exact H7.out.1.put 0 (.int .i64 (a0 + 1))
              case measure => simp [intOf]; omega
            · simp only [if_pos, reduceIte, Int.reduceEq, Int.add_zero] at e0 e1 e2 e3
              have hwr : IntKind.i64.wrap (a1 + 1) = a1 + 1 := IntWalk.i64_in _ (by omega)
              have HE := Lib.hid (And.intro e0 (And.intro e1 (And.intro e2 e3)))
              clear e0 e1 e2 e3
              go_wp2_with fail
              go_roundw
              case rel =>
                refine ⟨i + 1, by go_num, by omega, ?_, H7.out.2.put H7.out.1 HGN.out (by decide) (by decide) (by decide) 1 _⟩
                rw [HE.out.1, HE.out.2.1, HE.out.2.2.1, HE.out.2.2.2]
                exact H7.out.1.put 1 (.int .i64 (a1 + 1))
              case measure => simp [intOf]; omega
            · simp only [if_pos, reduceIte, Int.reduceEq, Int.add_zero] at e0 e1 e2 e3
              have hwr : IntKind.i64.wrap (a2 + 1) = a2 + 1 := IntWalk.i64_in _ (by omega)
              have HE := Lib.hid (And.intro e0 (And.intro e1 (And.intro e2 e3)))
              clear e0 e1 e2 e3
              go_wp2_with fail
              go_roundw
              case rel =>
                refine ⟨i + 1, by go_num, by omega, ?_, H7.out.2.put H7.out.1 HGN.out (by decide) (by decide) (by decide) 2 _⟩
                rw [HE.out.1, HE.out.2.1, HE.out.2.2.1, HE.out.2.2.2]
                exact H7.out.1.put 2 (.int .i64 (a2 + 1))
              case measure => simp [intOf]; omega
            · simp only [if_pos, reduceIte, Int.reduceEq, Int.add_zero] at e0 e1 e2 e3
              have hwr : IntKind.i64.wrap (a3 + 1) = a3 + 1 := IntWalk.i64_in _ (by omega)
              have HE := Lib.hid (And.intro e0 (And.intro e1 (And.intro e2 e3)))
              clear e0 e1 e2 e3
              go_wp2_with fail
              go_roundw
              case rel =>
                refine ⟨i + 1, by go_num, by omega, ?_, H7.out.2.put H7.out.1 HGN.out (by decide) (by decide) (by decide) 3 _⟩
                rw [HE.out.1, HE.out.2.1, HE.out.2.2.1, HE.out.2.2.2]
                exact H7.out.1.put 3 (.int .i64 (a3 + 1))
              case measure => simp [intOf]; omega
          · obtain rfl : n = i := by omega
            have hf : ans.take n = ans := List.take_of_length_le (by have := HN.out.1; omega)
            rw [hf] at hB
            clear hf
            have hb4 := hGt.2.2.2.1
            have hwb := H4.out.1.trans (hb4.mono H4.out.1.size)
            have hBx := H4.out.2.1.below hb4
            have x0 := hBx.base.cell 0
            have x1 := hBx.base.cell 1
            simp only [List.getElem?_toArray, List.getElem?_cons_succ, List.getElem?_cons_zero] at x0 x1
            have hcn := fun W (h : GotR w4 n ans g A5 A6 c5 c6 W) => reconCount_any W (.slice A5 n c5) ans (by have h1 := h.2.1; have h2 := HN.out.1; subst h2; exact SlV.of_own h1 eCR_len (by decide)) (by have := HN.out.1; omega) HN.out.2
            generalize cntR 0 ans = a0 at *
            generalize cntR 1 ans = a1 at *
            generalize cntR 2 ans = a2 at *
            generalize cntR 3 ans = a3 at *
            have HCN := Lib.hid hcn
            have HB := Lib.hid (And.intro hB (And.intro hGt (And.intro hwb (And.intro hBx (And.intro (H4.out.2.2.1.below hb4) (H4.out.2.2.2.below hb4))))))
            have HE := Lib.hid (reconEach_any wr (.slice A1 n1 c1) (.slice A2 n2 c2) bt bt2 A1 A2 _ _ _ _ rfl rfl)
            clear hb4 hwb hBx hB hGt hcn
            go_wp2_with fail
            refine HE.out.mono ?_
            rintro e w7 ⟨rfl, hw7⟩
            have hb7 : Below wr.heap.size wr w7 := by rw [hw7]; exact (((Below.refl _ wr).alloc (Nat.le_refl _) _).alloc (by simp) _).alloc (by simp; omega) _
            have hE7 : EachAt w7 wr.heap.size (wr.heap.size + 1) (wr.heap.size + 1 + 1) bt bm bt2 bm2 (.slice A1 n1 c1) (.slice A2 n2 c2) xs ys := by
              refine ⟨?_, ?_, ?_, HB.out.2.2.2.2.1.below hb7, HB.out.2.2.2.2.2.below hb7⟩
              · rw [hw7]; exact (blk_fst _ _ _ _).alloc _
              · rw [hw7]; exact (blk_snd _ _ _ _).alloc _
              · rw [hw7]; exact blk_trd _ _ _ _ _
            have H7 := Lib.hid (And.intro (HB.out.1.below hb7 HB.out.1.lt) (And.intro (HB.out.2.1.below hb7) (And.intro (HB.out.2.2.1.trans (hb7.mono HB.out.2.2.1.size)) (And.intro (HB.out.2.2.2.1.below hb7) hE7))))
            clear hw7 hb7 hE7 HB HE x0 x1
            generalize wr.heap.size = gE at *
            have hnf : ∀ W, (binOp .eql 66 (.func (.func 56) #[] #[.pointer (some ⟨gE, 0, none⟩), .pointer (some ⟨gE + 1, 0, none⟩), .pointer (some ⟨gE + 1 + 1, 0, none⟩)]) Value.nilFunc).run Tryz.prog W = .ok (.bool false) W := fun W => rfl
            have kg : ∀ m : Held (Aft w7), (HeldW m).cell? ⟨g, 0, none⟩ = some (.slice A5 n c5) := fun m => (Aft.cell m H7.out.2.1.1.lt).trans (H7.out.2.1.1.cell 0)
            have kn0 : ∀ m : Held (Aft w7), (HeldW m).cell? ⟨gn, 0, none⟩ = some (.int .i64 a0) := fun m => (Aft.cell m H7.out.1.lt).trans (H7.out.1.cell 0)
            have kn1 : ∀ m : Held (Aft w7), (HeldW m).cell? ⟨gn, 1, none⟩ = some (.int .i64 a1) := fun m => (Aft.cell m H7.out.1.lt).trans (H7.out.1.cell 1)
            have kn2 : ∀ m : Held (Aft w7), (HeldW m).cell? ⟨gn, 2, none⟩ = some (.int .i64 a2) := fun m => (Aft.cell m H7.out.1.lt).trans (H7.out.1.cell 2)
            have kn3 : ∀ m : Held (Aft w7), (HeldW m).cell? ⟨gn, 3, none⟩ = some (.int .i64 a3) := fun m => (Aft.cell m H7.out.1.lt).trans (H7.out.1.cell 3)
            have hNE := ne_four a0 a1 a2 a3
            have HCT := Lib.hid (fun (m : Held (Aft w7)) => HCN.out (HeldW m) (H7.out.2.1.below (HeldW_spec m)))
            clear HCN
            go_upto_region 15 with fail
            haveI := Aft.some w7
            refine wp_region_class (Aft w7) (by kernel_rfl) (by kernel_rfl) (Aft.start w7) ?_
            repeat (go_big_quiet_step (with_reducible exact held_below Aft.keep (HCT.out _)))
            refine wpQuiet_nil ?_
            rintro _ ⟨nn, rfl⟩
            have hW1 : Below w7.heap.size w7 (HeldW nn) := HeldW_spec nn
            generalize HeldW nn = w8 at *
            have hb8 := H7.out.2.2.1.trans (hW1.mono H7.out.2.2.1.size)
            have H8 := Lib.hid (And.intro (H7.out.2.1.below hW1) (And.intro hb8 (And.intro (H7.out.2.2.2.1.below hW1) (H7.out.2.2.2.2.below hW1))))
            clear hW1 nn kg kn0 kn1 kn2 kn3 hNE HCT H7 hnf hb8
            go_wp2_with fail
            obtain ⟨gk, hgk⟩ : ∃ gk, w8.heap.size = gk := ⟨_, rfl⟩
            obtain ⟨w9, hw9⟩ : ∃ w9, w8.alloc (.cells #[.int .i64 0] 3) = w9 := ⟨_, rfl⟩
            have hba : Below w8.heap.size w8 w9 := by rw [← hw9]; exact (Below.refl _ w8).alloc (Nat.le_refl _) _
            have hK9 : Blk w9 gk 3 #[.int .i64 0] := by rw [← hw9, ← hgk]; exact Blk.new _ _ _
            have hgk9 : w.heap.size ≤ gk := by rw [← hgk]; exact H8.out.2.1.size
            have hb9 := H8.out.2.1.trans (hba.mono H8.out.2.1.size)
            have hB9 := H8.out.2.2.1.below hba
            have hG9 := H8.out.1.below hba
            have hGle : w.heap.size ≤ w9.heap.size := hb9.size
            obtain ⟨M, hM, hM40⟩ : ∃ M : Nat, (mo : Int) % 40 = M ∧ M < 40 := ⟨mo % 40, by omega, by omega⟩
            have H9 := Lib.hid (And.intro (show RgC gk (G + 1 + 1 + 1) (G + 1 + 1) g w4.heap.size n ans A5 c5 mo 0 w9 from ⟨hK9, hB9.res, hB9.most, hG9.1, hG9.2.1⟩) hb9)
            have HE9 := Lib.hid (HTE.out w9 hb9 gE (gE + 1) (gE + 1 + 1) (H8.out.2.2.2.below hba))
            rw [hgk, hw9]
            have hMw : IntKind.i64.wrap (M : Int) = M := IntWalk.i64_in _ (by omega)
            have hMw1 : IntKind.i64.wrap ((M : Int) + 1) = (M : Int) + 1 := IntWalk.i64_in _ (by omega)
            have HMM := Lib.hid (And.intro hM hM40)
            clear hgk hw9 hba hK9 hb9 hB9 hG9 H8
            refine (wpIn_wide (n := 9)).1 ?_
            refine wpIn_rangeFunc_tellW (Mine := fun _ => False) (fun _ h => h.elim) rfl (by omega) (gf := 56) (lb := #[.pointer (some ⟨gE, 0, none⟩), .pointer (some ⟨gE + 1, 0, none⟩), .pointer (some ⟨gE + 1 + 1, 0, none⟩)]) rfl trivial (enters_of Tryz.func56 (by kernel_rfl) rfl)
              HE9.out KeepR.trans (fun W l o o' hl h1 h2 _ => keepR_b o' (by omega) h1 h2) (Below.refl _ _) (fun _ => rfl)
              (fun pre W => (pre.length ≤ M ∧ RgC gk (G + 1 + 1 + 1) (G + 1 + 1) g w4.heap.size n ans A5 c5 mo pre.length W) ∧ Below w.heap.size w W)
              (fun c pre W => ((c = .exit 2 ∧ pre.length = M + 1) ∧ RgC gk (G + 1 + 1 + 1) (G + 1 + 1) g w4.heap.size n ans A5 c5 mo pre.length W) ∧ Below w.heap.size w W)
              (OwnM.of_none (OwnFrom.and (Own.from (fun s A B row hs hg hr => ⟨hs.1, RgC.own gk _ _ g _ n ans A5 c5 mo List.length s A B row hs.2 hg hr⟩) _) (ownFrom_below (Nat.le_refl _) (by omega))))
              (fun c => OwnM.of_none (OwnFrom.and (Own.from (fun s A B row hs hg hr => ⟨hs.1, RgC.own gk _ _ g _ n ans A5 c5 mo List.length s A B row hs.2 hg hr⟩) _) (ownFrom_below (Nat.le_refl _) (by omega))))
              ⟨⟨Nat.zero_le _, H9.out.1⟩, H9.out.2⟩
              ?a1 (fun x W => W.alloc (.cells (eCR x).toArray 64))
              (fun x n0 pre W => ((pre.length ≤ M ∧ RgC gk (G + 1 + 1 + 1) (G + 1 + 1) g w4.heap.size n ans A5 c5 mo pre.length W) ∧ Below w.heap.size w W) ∧ Blk W n0 64 (eCR x).toArray)
              (fun x n0 => OwnM.of_none (OwnFrom.and (OwnFrom.and (Own.from (fun s A B row hs hg hr => ⟨hs.1, RgC.own gk _ _ g _ n ans A5 c5 mo List.length s A B row hs.2 hg hr⟩) _) (ownFrom_below (Nat.le_refl _) (by omega))) (Own.from (fun _ A B row hs hg hr => blk_ownF hs hg hr) _)))
              ?made ?assign ?body ?done ?stop
            case assign =>
              intro l x n0 W hn K hK
              simp only [eCR]
              gi_wp2
              exact hK
            case made =>
              rintro pre x W ⟨⟨hle, hI⟩, hB⟩ hT
              have hba := (Below.refl W.heap.size W).alloc (Nat.le_refl _) (.cells (eCR x).toArray 64)
              exact ⟨⟨⟨⟨hle, hI.below hba⟩, hB.trans (hba.mono hB.size)⟩, Blk.new _ _ _⟩, keeps_belowF hba, .below hba hB.size⟩
            case body =>
              rintro l pre ⟨q, v, cl, ⟨ak, am, at', ad⟩, ⟨ck, cm, ct, cd⟩⟩ n0 W ⟨⟨⟨hle, hI⟩, hB⟩, hX⟩ hT
              simp only [eCR] at hX
              obtain ⟨kv, hkv⟩ : ∃ kv, pre.length = kv := ⟨_, rfl⟩
              have hlp : (pre ++ [(⟨q, v, cl, ⟨ak, am, at', ad⟩, ⟨ck, cm, ct, cd⟩⟩ : StR)]).length = kv + 1 := by rw [List.length_append, hkv]; rfl
              have hkA : kv < ans.length := by obtain ⟨r, hr⟩ := hT; have := congrArg List.length hr; simp at this; omega
              have hxe : ans[kv] = ⟨q, v, cl, ⟨ak, am, at', ad⟩, ⟨ck, cm, ct, cd⟩⟩ := by
                obtain ⟨r, hr⟩ := hT
                subst hkv
                simp only [← hr, List.append_assoc, List.getElem_append_right (Nat.le_refl _), Nat.sub_self, List.singleton_append, List.getElem_cons_zero]
              rw [hkv] at hle hI
              have hkn : kv < n := by have := HN.out.1; omega
              have hoA := hI.2.2.2.2
              rw [← HN.out.1] at hoA
              obtain ⟨A', c', hA', _, _, hso⟩ := SlV.of_own (l := ans) hoA eCR_len (by decide)
              obtain ⟨rfl, rfl⟩ : A5 = A' ∧ c5 = c' := by injection hA' with e1 e2 e3; exact ⟨e1, e3⟩
              clear hA' hoA
              obtain ⟨b, off, rfl, hbb, hcs⟩ := hso (by omega)
              have cc0 := hcs kv hkA 0 (by omega)
              have cc1 := hcs kv hkA 1 (by omega)
              have cc2 := hcs kv hkA 2 (by omega)
              have cc3 := hcs kv hkA 3 (by omega)
              have cc4 := hcs kv hkA 4 (by omega)
              have cc5 := hcs kv hkA 5 (by omega)
              have cc6 := hcs kv hkA 6 (by omega)
              have cc7 := hcs kv hkA 7 (by omega)
              have cc8 := hcs kv hkA 8 (by omega)
              have cc9 := hcs kv hkA 9 (by omega)
              have cc10 := hcs kv hkA 10 (by omega)
              simp only [hxe, eCR, List.getElem?_cons_succ, List.getElem?_cons_zero, Nat.add_zero] at cc0 cc1 cc2 cc3 cc4 cc5 cc6 cc7 cc8 cc9 cc10
              clear hcs hso hxe hT
              have hi1 : (kv : Int) < n := by omega
              have hd : decide ((n : Int) ≤ kv) = false := by rw [decide_eq_false_iff_not]; omega
              have hd2 : decide (n ≤ kv) = false := by rw [decide_eq_false_iff_not]; omega
              have hNE := ne_stepR q ad cd v cl ak am at' ck cm ct
              have kk : ∀ m : Held (Aft W), (HeldW m).cell? ⟨gk, 0, none⟩ = some (.int .i64 kv) := fun m => (Aft.cell m hI.1.lt).trans (hI.1.cell 0)
              have kg : ∀ m : Held (Aft W), (HeldW m).cell? ⟨g, 0, none⟩ = some (.slice (some ⟨b, off, none⟩) n c5) := fun m => (Aft.cell m hI.2.2.2.1.lt).trans (hI.2.2.2.1.cell 0)
              have kc0 : ∀ m : Held (Aft W), (HeldW m).cell? ⟨b, off + kv * 11, none⟩ = some (.string q) := fun m => (Aft.cell m hbb).trans cc0
              have kc1 : ∀ m : Held (Aft W), (HeldW m).cell? ⟨b, off + kv * 11 + 1, none⟩ = some (.int .i64 v) := fun m => (Aft.cell m hbb).trans cc1
              have kc2 : ∀ m : Held (Aft W), (HeldW m).cell? ⟨b, off + kv * 11 + 2, none⟩ = some (.int .i64 cl) := fun m => (Aft.cell m hbb).trans cc2
              have kc3 : ∀ m : Held (Aft W), (HeldW m).cell? ⟨b, off + kv * 11 + 3, none⟩ = some (.int .i64 ak) := fun m => (Aft.cell m hbb).trans cc3
              have kc4 : ∀ m : Held (Aft W), (HeldW m).cell? ⟨b, off + kv * 11 + 4, none⟩ = some (.int .i64 am) := fun m => (Aft.cell m hbb).trans cc4
              have kc5 : ∀ m : Held (Aft W), (HeldW m).cell? ⟨b, off + kv * 11 + 5, none⟩ = some (.int .u32 at') := fun m => (Aft.cell m hbb).trans cc5
              have kc6 : ∀ m : Held (Aft W), (HeldW m).cell? ⟨b, off + kv * 11 + 6, none⟩ = some (.string ad) := fun m => (Aft.cell m hbb).trans cc6
              have kc7 : ∀ m : Held (Aft W), (HeldW m).cell? ⟨b, off + kv * 11 + 7, none⟩ = some (.int .i64 ck) := fun m => (Aft.cell m hbb).trans cc7
              have kc8 : ∀ m : Held (Aft W), (HeldW m).cell? ⟨b, off + kv * 11 + 8, none⟩ = some (.int .i64 cm) := fun m => (Aft.cell m hbb).trans cc8
              have kc9 : ∀ m : Held (Aft W), (HeldW m).cell? ⟨b, off + kv * 11 + 9, none⟩ = some (.int .u32 ct) := fun m => (Aft.cell m hbb).trans cc9
              have kc10 : ∀ m : Held (Aft W), (HeldW m).cell? ⟨b, off + kv * 11 + 10, none⟩ = some (.string cd) := fun m => (Aft.cell m hbb).trans cc10
              have kx0 : ∀ m : Held (Aft W), (HeldW m).cell? ⟨n0, 0, none⟩ = some (.string q) := fun m => (Aft.cell m hX.lt).trans (hX.cell 0)
              have kx1 : ∀ m : Held (Aft W), (HeldW m).cell? ⟨n0, 1, none⟩ = some (.int .i64 v) := fun m => (Aft.cell m hX.lt).trans (hX.cell 1)
              have kx2 : ∀ m : Held (Aft W), (HeldW m).cell? ⟨n0, 2, none⟩ = some (.int .i64 cl) := fun m => (Aft.cell m hX.lt).trans (hX.cell 2)
              have kx3 : ∀ m : Held (Aft W), (HeldW m).cell? ⟨n0, 3, none⟩ = some (.int .i64 ak) := fun m => (Aft.cell m hX.lt).trans (hX.cell 3)
              have kx4 : ∀ m : Held (Aft W), (HeldW m).cell? ⟨n0, 4, none⟩ = some (.int .i64 am) := fun m => (Aft.cell m hX.lt).trans (hX.cell 4)
              have kx5 : ∀ m : Held (Aft W), (HeldW m).cell? ⟨n0, 5, none⟩ = some (.int .u32 at') := fun m => (Aft.cell m hX.lt).trans (hX.cell 5)
              have kx6 : ∀ m : Held (Aft W), (HeldW m).cell? ⟨n0, 6, none⟩ = some (.string ad) := fun m => (Aft.cell m hX.lt).trans (hX.cell 6)
              have kx7 : ∀ m : Held (Aft W), (HeldW m).cell? ⟨n0, 7, none⟩ = some (.int .i64 ck) := fun m => (Aft.cell m hX.lt).trans (hX.cell 7)
              have kx8 : ∀ m : Held (Aft W), (HeldW m).cell? ⟨n0, 8, none⟩ = some (.int .i64 cm) := fun m => (Aft.cell m hX.lt).trans (hX.cell 8)
              have kx9 : ∀ m : Held (Aft W), (HeldW m).cell? ⟨n0, 9, none⟩ = some (.int .u32 ct) := fun m => (Aft.cell m hX.lt).trans (hX.cell 9)
              have kx10 : ∀ m : Held (Aft W), (HeldW m).cell? ⟨n0, 10, none⟩ = some (.string cd) := fun m => (Aft.cell m hX.lt).trans (hX.cell 10)
              have HI := Lib.hid (And.intro hI (And.intro hB hlp))
              clear hI hB hX cc0 cc1 cc2 cc3 cc4 cc5 cc6 cc7 cc8 cc9 cc10 hlp
              haveI := Aft.some W
              gi_wp2
              refine wp_region_classIn (Aft W) (by kernel_rfl) (by kernel_rfl) (by kernel_rfl) (Aft.start W) ?_
              repeat (gi_big_quiet_step (fail))
              refine wpQuietIn_nil ?_
              rintro _ ⟨nn, rfl⟩
              have hW1 : Below W.heap.size W (HeldW nn) := HeldW_spec nn
              generalize HeldW nn = W1 at *
              have hI1 := HI.out.1.below hW1
              have m0 := hI1.1.cell 0
              have f0 := hI1.1.frozen 0
              have m2 := hI1.2.2.1.cell 0
              simp only [List.getElem?_toArray, List.getElem?_cons_zero] at m0 m2
              have hne : ¬ gk = G + 1 + 1 := fun e => by have := Blk.other hI1.2.2.1 hI1.1 (by decide); omega
              have hne2 : ¬ G + 1 + 1 = gk := fun e => hne e.symm
              have HI1 := Lib.hid (And.intro hI1 hW1)
              clear hW1 nn kk kg hNE kc0 kx0 kc1 kx1 kc2 kx2 kc3 kx3 kc4 kx4 kc5 kx5 kc6 kx6 kc7 kx7 kc8 kx8 kc9 kx9 kc10 kx10 hI1
              have hwk : IntKind.i64.wrap ((kv : Int) + 1) = (kv : Int) + 1 := IntWalk.i64_in _ (by omega)
              have hfin : KeepsOthers W (W1.setCell ⟨gk, 0, none⟩ (.int .i64 ((kv + 1 : Nat) : Int))) ∧ KeepR w.heap.size tsR W (W1.setCell ⟨gk, 0, none⟩ (.int .i64 ((kv + 1 : Nat) : Int))) ∧ RgC gk (G + 1 + 1 + 1) (G + 1 + 1) g w4.heap.size n ans (some ⟨b, off, none⟩) c5 mo (kv + 1) (W1.setCell ⟨gk, 0, none⟩ (.int .i64 ((kv + 1 : Nat) : Int))) ∧ Below w.heap.size w (W1.setCell ⟨gk, 0, none⟩ (.int .i64 ((kv + 1 : Nat) : Int))) :=
                ⟨(keeps_belowF HI1.out.2).trans (KeepsOthers.setCell _ _ _), (KeepR.below HI1.out.2 HI.out.2.1.size).trans (keepR_int HI1.out.1.1 hgk9 _), HI1.out.1.put (kv + 1), (HI.out.2.1.trans (HI1.out.2.mono HI.out.2.1.size)).setCell (p := ⟨gk, 0, none⟩) hgk9 _⟩
              rw [show (((kv + 1 : Nat) : Int)) = (kv : Int) + 1 by omega] at hfin
              have HFIN := Lib.hid hfin
              clear hfin
              have hM1 := HMM.out.1
              by_cases hk : kv + 1 ≤ M
              · have hk2 : ¬ (M : Int) < (kv : Int) + 1 := by omega
                gi_wp2
                exact ⟨HFIN.out.1, HFIN.out.2.1, ⟨by rw [HI.out.2.2]; exact hk, by rw [HI.out.2.2]; exact HFIN.out.2.2.1⟩, HFIN.out.2.2.2⟩
              · have hk2 : (M : Int) < (kv : Int) + 1 := by omega
                gi_wp2
                exact ⟨HFIN.out.1, ⟨⟨rfl, by rw [HI.out.2.2]; omega⟩, by rw [HI.out.2.2]; exact HFIN.out.2.2.1⟩, HFIN.out.2.2.2⟩
            case done =>
              rintro D zs W hD hzs ⟨⟨hle, hI⟩, hB⟩ hK
              have hz : zs = ans := hzs
              rw [hz, HN.out.1] at hle hI
              have hmin : min (n : Int) ((M : Int) + 1) = n := by omega
              have hmin2 : min ((M : Int) + 1) (n : Int) = n := by omega
              have m0 := hI.1.cell 0
              have m1 := hI.2.2.2.1.cell 0
              have m2 := hI.2.2.1.cell 0
              simp only [List.getElem?_toArray, List.getElem?_cons_zero] at m0 m1 m2
              have hM1 := HMM.out.1
              have hD' : w.heap.size ≤ D := by omega
              have HF := Lib.hid (And.intro hI.2.1 (And.intro hB hK))
              clear hI hB hK
              go_wp2_with fail
              refine (recon_lives _).mono ?_
              rintro e wZ ⟨rfl, hbZ⟩
              have hKZ : wZ.heap[D]? = some (Obj.deferred (some [])) := (hbZ.block D (Array.getElem?_eq_some_iff.1 HF.out.2.2).1).trans HF.out.2.2
              have hRZ := HF.out.1.below hbZ HF.out.1.lt
              have HZ := Lib.hid (And.intro hRZ (And.intro (HF.out.2.1.trans (hbZ.mono HF.out.2.1.size)) hKZ))
              have r0 := hRZ.cell 0
              have r1 := hRZ.frozen 0
              simp only [List.getElem?_toArray, List.getElem?_cons_zero] at r0
              clear hbZ hKZ hRZ HF m0 m1 m2
              go_wp2_with fail
              have hK23 : (wZ.setCell ⟨G + 1 + 1 + 1, 0, none⟩ (.bool true)).heap[D]? = some (Obj.deferred (some [])) := (KeepsOthers.setCell wZ ⟨G + 1 + 1 + 1, 0, none⟩ (.bool true)).same D _ HZ.out.2.2 rfl
              have hR23 : Blk (wZ.setCell ⟨G + 1 + 1 + 1, 0, none⟩ (.bool true)) (G + 1 + 1 + 1) 4 #[.bool true] := HZ.out.1.put 0 (.bool true)
              have hB23 := HZ.out.2.1.setCell (p := ⟨G + 1 + 1 + 1, 0, none⟩) (by have := HG.out; dsimp only; omega) (.bool true)
              refine ⟨by simp, .inl ⟨_, _, rfl, run_takeDeferred hK23, ?_⟩⟩
              refine ⟨_, res_cellR rfl _ _ (G + 1 + 1 + 1) 4 (.bool true) rfl (blk_ownF hR23 (grownBy_putObj' _ D (.deferred none)) (fun r e => by cases e; exact ⟨_, hK23, rfl⟩)) Tryz.underlying4, rfl, ?_⟩
              exact hB23.trans (belowK_b (w := w) (Nat.le_refl _) _ D _ _ hD' hK23 rfl rfl)
            case stop =>
              rintro D c pre W hD hSp ⟨⟨⟨hc, hlen⟩, hI⟩, hB⟩ hK
              have hMn : M + 1 ≤ n := by obtain ⟨r, hr⟩ := hSp; have h1 := congrArg List.length hr; rw [List.length_append] at h1; have := HN.out.1; omega
              rw [hlen] at hI
              have hmin : min (n : Int) ((M : Int) + 1) = (M : Int) + 1 := by omega
              have hmin2 : min ((M : Int) + 1) (n : Int) = (M : Int) + 1 := by omega
              subst hc
              have m0 := hI.1.cell 0
              have m1 := hI.2.2.2.1.cell 0
              have m2 := hI.2.2.1.cell 0
              simp only [List.getElem?_toArray, List.getElem?_cons_zero] at m0 m1 m2
              rw [show ((M + 1 : Nat) : Int) = (M : Int) + 1 by omega] at m0
              have hM1 := HMM.out.1
              have hD' : w.heap.size ≤ D := by omega
              have HF := Lib.hid (And.intro hI.2.1 (And.intro hB hK))
              clear hI hB hK
              gi_wp2
              go_wp2_with fail
              refine (recon_lives _).mono ?_
              rintro e wZ ⟨rfl, hbZ⟩
              have hKZ : wZ.heap[D]? = some (Obj.deferred (some [])) := (hbZ.block D (Array.getElem?_eq_some_iff.1 HF.out.2.2).1).trans HF.out.2.2
              have hRZ := HF.out.1.below hbZ HF.out.1.lt
              have HZ := Lib.hid (And.intro hRZ (And.intro (HF.out.2.1.trans (hbZ.mono HF.out.2.1.size)) hKZ))
              have r0 := hRZ.cell 0
              have r1 := hRZ.frozen 0
              simp only [List.getElem?_toArray, List.getElem?_cons_zero] at r0
              clear hbZ hKZ hRZ HF m0 m1 m2
              go_wp2_with fail
              have hK23 : (wZ.setCell ⟨G + 1 + 1 + 1, 0, none⟩ (.bool true)).heap[D]? = some (Obj.deferred (some [])) := (KeepsOthers.setCell wZ ⟨G + 1 + 1 + 1, 0, none⟩ (.bool true)).same D _ HZ.out.2.2 rfl
              have hR23 : Blk (wZ.setCell ⟨G + 1 + 1 + 1, 0, none⟩ (.bool true)) (G + 1 + 1 + 1) 4 #[.bool true] := HZ.out.1.put 0 (.bool true)
              have hB23 := HZ.out.2.1.setCell (p := ⟨G + 1 + 1 + 1, 0, none⟩) (by have := HG.out; dsimp only; omega) (.bool true)
              refine ⟨by simp, .inl ⟨_, _, rfl, run_takeDeferred hK23, ?_⟩⟩
              refine ⟨_, res_cellR rfl _ _ (G + 1 + 1 + 1) 4 (.bool true) rfl (blk_ownF hR23 (grownBy_putObj' _ D (.deferred none)) (fun r e => by cases e; exact ⟨_, hK23, rfl⟩)) Tryz.underlying4, rfl, ?_⟩
              exact hB23.trans (belowK_b (w := w) (Nat.le_refl _) _ D _ _ hD' hK23 rfl rfl)
end Go.Proofs.YteofiffbobbdmaaGreatDoor
