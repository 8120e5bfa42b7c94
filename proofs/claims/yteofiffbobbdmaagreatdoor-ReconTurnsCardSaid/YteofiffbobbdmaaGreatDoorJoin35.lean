/- Several texts, joined for the limit of sixty files; each one opens with its own comment. -/
import Derived.Test.YteofiffbobbdmaaGreatDoorJoin34
import Derived.Test.YteofiffbobbdmaaGreatDoorJoin29
import Derived.Test.YteofiffbobbdmaaGreatDoorJoin1
import Derived.Test.YteofiffbobbdmaaGreatDoorJoin17
/- Law 29's Light, of any Base and items. -/
set_option linter.unusedVariables false
set_option linter.unusedSimpArgs false
namespace Go.Proofs.YteofiffbobbdmaaGreatDoor
open Go Go.RowKit
open Sw
/-- what law 29's Light answers -/
def Light29 (l1 l2 : List MkE) (l : List NE) (e : Ending) : Prop := ∃ R : Bool, e = .returned (.bool R) ∧ (R = true → (l1.length ≤ 30 ∧ l2.length ≤ 30 ∧ ∀ m ∈ l1 ++ l2, m.1.size ≤ 150) ∧ l.length ≤ 30 ∧ (∀ e ∈ l, SmallE e) ∧ putsT [] l = (0, l))
theorem Light29.no {l1 l2 : List MkE} {l : List NE} : Light29 l1 l2 l (.returned (.bool false)) := ⟨false, rfl, fun h => (by cases h)⟩
set_option maxRecDepth 100000 in
set_option maxHeartbeats 4000000 in
theorem light29_any (w : World) (u1 u2 : Value) (l1 l2 : List MkE) (h1 : SlV w 6 eCM u1 l1) (h2 : SlV w 6 eCM u2 l2) (hin1 : ∀ m ∈ l1, 0 ≤ m.2.time ∧ m.2.time < 4294967296) (hin2 : ∀ m ∈ l2, 0 ≤ m.2.time ∧ m.2.time < 4294967296)
    (v : Value) (l : List NE) (h : SlV w 5 eCSN v l) (hin : ∀ x ∈ l, x.1.size ≤ maxLen ∧ NdIn x.2) :
    Calls Tryz.prog 7 #[.agg #[u1, u2], v] w fun e w' => Light29 l1 l2 l e ∧ Below w.heap.size w w' := by
  have hb0 : Below w.heap.size w (w.alloc (.cells #[u1, u2] 24)) := (Below.refl _ w).alloc (Nat.le_refl _) _
  have hB0 := Blk.new w 24 #[u1, u2]
  have HL := Lib.hid (light26_any _ u1 u2 l1 l2 (h1.below hb0 (Nat.le_refl _)) (h2.below hb0 (Nat.le_refl _)))
  have HM := Lib.hid (And.intro (And.intro h1 h2) (And.intro hin1 hin2)); clear hin1 hin2
  have H0 := Lib.hid (And.intro hb0 (And.intro hB0 (And.intro h hin)))
  obtain ⟨A, c, rfl, _, _, _⟩ := h
  obtain ⟨A1, c1, rfl, _, _, _⟩ := h1
  obtain ⟨A2, c2, rfl, _, _, _⟩ := h2
  obtain ⟨k1, hk1⟩ : ∃ n, l1.length = n := ⟨_, rfl⟩
  obtain ⟨k2, hk2⟩ : ∃ n, l2.length = n := ⟨_, rfl⟩
  rw [hk1, hk2] at HL H0 HM hB0 hb0 ⊢
  clear hk1 hk2 hb0 hB0 hin
  obtain ⟨n, hn⟩ : ∃ n, l.length = n := ⟨_, rfl⟩
  rw [hn] at H0
  rw [hn]
  have HN := Lib.hid hn; clear hn
  go_enter Tryz.func7, Tryz.ntmps7
  go_wp2_with fail
  refine HL.out.mono ?_
  rintro e w1 ⟨⟨R, rfl, hR1⟩, hb1⟩
  have hB1 := H0.out.2.1.below hb1 H0.out.2.1.lt
  have x0 := hB1.cell 0
  have x1 := hB1.cell 1
  simp at x0 x1
  have H1 := Lib.hid (And.intro (H0.out.1.trans (hb1.mono H0.out.1.size)) hR1); clear hb1 hB1 hR1
  cases R with
  | false =>
    go_wp2_with fail
    go_ret
    exact ⟨.no, H1.out.1⟩
  | true =>
    have hl := H1.out.2 rfl
    have HR := Lib.hid (right26_any w1 (.slice A1 k1 c1) (.slice A2 k2 c2) l1 l2 (HM.out.1.1.below H1.out.1 (Nat.le_refl _)) (HM.out.1.2.below H1.out.1 (Nat.le_refl _)) (by have := hl.1; omega) (by have := hl.2.1; omega) (fun m hm => ⟨by have := hl.2.2 m (List.mem_append_left _ hm); omega, HM.out.2.1 m hm⟩) (fun m hm => ⟨by have := hl.2.2 m (List.mem_append_right _ hm); omega, HM.out.2.2 m hm⟩))
    have HLL := Lib.hid hl; clear hl
    go_wp2_with fail
    refine HR.out.mono ?_
    rintro e w2 ⟨⟨R, rfl⟩, hb2⟩
    have H2 := Lib.hid (H1.out.1.trans (hb2.mono H1.out.1.size)); clear hb2 x0 x1 HR
    cases R with
    | false =>
      go_wp2_with fail
      go_ret
      exact ⟨.no, H2.out⟩
    | true =>
      have HLI := Lib.hid (light16_any w2 (.slice A n c) l (H0.out.2.2.1.below H2.out (Nat.le_refl _)) (fun e he => ⟨(H0.out.2.2.2 e he).1, (H0.out.2.2.2 e he).2.size⟩))
      go_wp2_with fail
      refine HLI.out.mono ?_
      rintro e w3 ⟨R, rfl, hR, hb3⟩
      have H3 := Lib.hid (And.intro (H2.out.trans (hb3.mono H2.out.size)) hR); clear hb3 hR HLI
      cases R with
      | false =>
        go_wp2_with fail
        go_ret
        exact ⟨.no, H3.out.1⟩
      | true =>
        obtain ⟨hl30, hsm⟩ := H3.out.2 rfl
        have HRR := Lib.hid (ref16Right_any w3 (.slice A n c) l (H0.out.2.2.1.below H3.out.1 (Nat.le_refl _)) (by omega) (fun x hx => ⟨by have := (hsm x hx).1; omega, (H0.out.2.2.2 x hx).2⟩))
        have HSM := Lib.hid (And.intro hl30 hsm); clear hl30 hsm
        go_wp2_with fail
        refine HRR.out.mono ?_
        rintro e w4 ⟨R, rfl, hR, hb4⟩
        have H4 := Lib.hid (And.intro (H3.out.1.trans (hb4.mono H3.out.1.size)) hR); clear hb4 hR HRR
        go_wp2_with fail
        go_ret
        exact ⟨⟨R, rfl, fun h => ⟨HLL.out, HN.out ▸ HSM.out.1, HSM.out.2, H4.out.2.1 h⟩⟩, H4.out.1⟩
end Go.Proofs.YteofiffbobbdmaaGreatDoor
/- ReconTurns: both sides the other way round. -/
set_option linter.unusedVariables false
set_option linter.unusedSimpArgs false
namespace Sw
theorem cntR_none (k : Int) (l : List StR) (h : ∀ f ∈ l, f.verdict = 0) (hk : ¬ k = 0) : cntR k l = 0 := by
  unfold cntR
  rw [List.filter_eq_nil_iff.2 (fun f hf => by rw [h f hf]; simpa using fun e : (0 : Int) = k => hk e.symm)]
  rfl
theorem decide_four (was : Pr) (had : Bool) (a b : Nd) : (decideN was had a b).1 = 0 ∨ (decideN was had a b).1 = 1 ∨ (decideN was had a b).1 = 2 ∨ (decideN was had a b).1 = 3 := by
  unfold decideN
  split
  · exact .inl rfl
  · split
    · exact .inr (.inl rfl)
    · split
      · exact .inr (.inr (.inl rfl))
      · exact .inr (.inr (.inr rfl))
theorem allR_four {L : List MkE} {xs ys : List NE} {f : StR} (h : f ∈ allR L xs ys) : f.verdict = 0 ∨ f.verdict = 1 ∨ f.verdict = 2 ∨ f.verdict = 3 := by
  obtain ⟨p, _, rfl⟩ := List.mem_map.1 h
  exact decide_four _ _ _ _
theorem allR_self {L : List MkE} {xs : List NE} {f : StR} (h : f ∈ allR L xs xs) : f.verdict = 0 := by
  obtain ⟨p, _, rfl⟩ := List.mem_map.1 h
  unfold stepR
  rw [decide_self]
theorem allR_len (L : List MkE) (xs ys : List NE) : (allR L xs ys).length = (allR L ys xs).length := by
  unfold allR
  rw [List.length_map, List.length_map, paths_turn]
/-- a path's two steps -/
def TurnR (s o : StR) : Prop := o.path = s.path ∧ o.cls = s.cls ∧ o.right = s.left ∧ (s.verdict = 1 ∧ o.verdict = 2 ∨ s.verdict = 2 ∧ o.verdict = 1 ∨ s.verdict = o.verdict ∧ ¬ s.verdict = 1 ∧ ¬ s.verdict = 2)
theorem stepR_turn {L : List MkE} {xs ys : List NE} (hx : TI xs) (hy : TI ys) (p : ByteArray) : TurnR (stepR L xs ys p) (stepR L ys xs p) := by
  have h := decide_turn ((findM L p).getD ⟨0, 0, 0, 0, 0⟩) (findM L p).isSome _ _ (getT_zero hx p) (getT_zero hy p)
  exact ⟨rfl, h.1, rfl, h.2⟩
theorem allR_turn {L : List MkE} {xs ys : List NE} (hx : TI xs) (hy : TI ys) (i : Nat) (h1 : i < (allR L xs ys).length) (h2 : i < (allR L ys xs).length) : TurnR (allR L xs ys)[i] (allR L ys xs)[i] := by
  have h3 : i < (pathsS (L.map Prod.fst ++ xs.map Prod.fst ++ ys.map Prod.fst)).length := by simpa [allR] using h1
  have e1 : (allR L xs ys)[i] = stepR L xs ys ((pathsS (L.map Prod.fst ++ xs.map Prod.fst ++ ys.map Prod.fst))[i]'h3) := by simp only [allR, List.getElem_map]
  have e2 : (allR L ys xs)[i] = stepR L ys xs ((pathsS (L.map Prod.fst ++ xs.map Prod.fst ++ ys.map Prod.fst))[i]'h3) := by simp only [allR, List.getElem_map, paths_turn (L.map Prod.fst) (ys.map Prod.fst) (xs.map Prod.fst)]
  rw [e1, e2]
  exact stepR_turn hx hy _
end Sw
namespace Go.Proofs.YteofiffbobbdmaaGreatDoor
open Go Go.RowKit
open Sw
set_option maxRecDepth 100000 in
set_option maxHeartbeats 8000000 in
theorem reconTurns_main (w : World) (u1 u2 : Value) (l1 l2 : List MkE) (h1 : SlV w 6 eCM u1 l1) (h2 : SlV w 6 eCM u2 l2) (hin1 : ∀ m ∈ l1, 0 ≤ m.2.time ∧ m.2.time < 4294967296) (hin2 : ∀ m ∈ l2, 0 ≤ m.2.time ∧ m.2.time < 4294967296)
    (v1 v2 : Value) (xs ys : List NE) (g1 : SlV w 5 eCSN v1 xs) (g2 : SlV w 5 eCSN v2 ys) (hx : ∀ x ∈ xs, x.1.size ≤ maxLen ∧ NdIn x.2) (hy : ∀ x ∈ ys, x.1.size ≤ maxLen ∧ NdIn x.2) :
    Calls Tryz.prog 6 #[.agg #[u1, u2], .agg #[v1, v2]] w fun e w' => e = .returned (.bool true) ∧ Below w.heap.size w w' := by
  obtain ⟨W, hW⟩ : ∃ W, (w.alloc (.cells #[u1, u2] 24)).alloc (.cells #[v1, v2] 57) = W := ⟨_, rfl⟩
  have hb0 : Below w.heap.size w W := by rw [← hW]; exact ((Below.refl _ w).alloc (Nat.le_refl _) _).alloc (by simp) _
  have hB0 : Blk W w.heap.size 24 #[u1, u2] := by rw [← hW]; exact blk_fst _ _ _ _
  have hI0 : Blk W (w.heap.size + 1) 57 #[v1, v2] := by rw [← hW]; exact blk_snd _ _ _ _
  have HLI := Lib.hid (fun W' (hb : Below w.heap.size w W') => light29_any W' u1 u2 l1 l2 (h1.below hb (Nat.le_refl _)) (h2.below hb (Nat.le_refl _)) hin1 hin2 v1 xs (g1.below hb (Nat.le_refl _)) hx)
  have HLJ := Lib.hid (fun W' (hb : Below w.heap.size w W') => light29_any W' u1 u2 l1 l2 (h1.below hb (Nat.le_refl _)) (h2.below hb (Nat.le_refl _)) hin1 hin2 v2 ys (g2.below hb (Nat.le_refl _)) hy)
  have HS := Lib.hid (And.intro (And.intro h1 h2) (And.intro (And.intro g1 g2) (And.intro hx hy)))
  clear hin1 hin2 hx hy
  obtain ⟨A1, c1, rfl, _, _, _⟩ := h1
  obtain ⟨A2, c2, rfl, _, _, _⟩ := h2
  obtain ⟨A3, c3, rfl, _, _, _⟩ := g1
  obtain ⟨A4, c4, rfl, _, _, _⟩ := g2
  obtain ⟨n1, hn1⟩ : ∃ n, l1.length = n := ⟨_, rfl⟩
  obtain ⟨n2, hn2⟩ : ∃ n, l2.length = n := ⟨_, rfl⟩
  obtain ⟨n3, hn3⟩ : ∃ n, xs.length = n := ⟨_, rfl⟩
  obtain ⟨n4, hn4⟩ : ∃ n, ys.length = n := ⟨_, rfl⟩
  have HL := Lib.hid (And.intro (And.intro hn1 hn2) (And.intro hn3 hn4))
  rw [hn1, hn2, hn3] at HLI
  rw [hn1, hn2, hn4] at HLJ
  rw [hn1, hn2, hn3, hn4] at HS
  rw [hn1, hn2, hn3, hn4] at hW
  rw [hn1, hn2] at hB0
  rw [hn3, hn4] at hI0
  rw [hn1, hn2, hn3, hn4]
  clear hn1 hn2 hn3 hn4
  have x0 := hB0.cell 0
  have x1 := hB0.cell 1
  have y0 := hI0.cell 0
  have y1 := hI0.cell 1
  simp only [List.getElem?_toArray, List.getElem?_cons_succ, List.getElem?_cons_zero] at x0 x1 y0 y1
  obtain ⟨G, hG⟩ : ∃ G, w.heap.size = G := ⟨_, rfl⟩
  rw [hG] at hB0 hI0 x0 x1 y0 y1
  have HW := Lib.hid (And.intro hW (And.intro hb0 (And.intro hB0 (And.intro hI0 hG)))); clear hW hb0 hB0 hI0
  go_enter Tryz.func6, Tryz.ntmps6
  go_upto_region 1 with fail
  rw [HW.out.1]
  clear hG
  go_wp2_with fail
  refine (HLI.out W HW.out.2.1).mono ?_
  rintro e w1 ⟨⟨R, rfl, hR⟩, hb1⟩
  have H1 := Lib.hid (And.intro (HW.out.2.1.trans (hb1.mono HW.out.2.1.size)) (And.intro (HW.out.2.2.1.below hb1 HW.out.2.2.1.lt) (And.intro (HW.out.2.2.2.1.below hb1 HW.out.2.2.2.1.lt) hR))); clear hb1 hR HLI x0 x1 y0 y1
  cases R with
  | false =>
    go_wp2_with fail
    refine (recon_lives _).mono ?_
    rintro e w2 ⟨rfl, hb2⟩
    have H2 := Lib.hid (H1.out.1.trans (hb2.mono H1.out.1.size)); clear hb2
    go_wp2_with fail
    go_ret
    exact ⟨rfl, H2.out⟩
  | true =>
    have x0 := H1.out.2.1.cell 0
    have x1 := H1.out.2.1.cell 1
    have y1 := H1.out.2.2.1.cell 1
    simp only [List.getElem?_toArray, List.getElem?_cons_succ, List.getElem?_cons_zero] at x0 x1 y1
    go_wp2_with fail
    refine (HLJ.out w1 H1.out.1).mono ?_
    rintro e w2 ⟨⟨R, rfl, hR⟩, hb2⟩
    have H2 := Lib.hid (And.intro (H1.out.1.trans (hb2.mono H1.out.1.size)) (And.intro (H1.out.2.1.below hb2 H1.out.2.1.lt) (And.intro (H1.out.2.2.1.below hb2 H1.out.2.2.1.lt) hR))); clear hb2 hR HLJ x0 x1 y1
    cases R with
    | false =>
      go_wp2_with fail
      refine (recon_lives _).mono ?_
      rintro e w3 ⟨rfl, hb3⟩
      have H3 := Lib.hid (H2.out.1.trans (hb3.mono H2.out.1.size)); clear hb3
      go_wp2_with fail
      go_ret
      exact ⟨rfl, H3.out⟩
    | true =>
      obtain ⟨⟨hl1, hl2, hmz⟩, hxl, hxs, hxp⟩ := H1.out.2.2.2 (by first | rfl | trivial)
      obtain ⟨-, hyl, hys, hyp⟩ := H2.out.2.2.2 (by first | rfl | trivial)
      have HLL := Lib.hid (And.intro (And.intro hl1 hl2) (And.intro hmz (And.intro hxl hyl)))
      have HTX := Lib.hid (ti_of_puts (by rw [hxp] : (putsT [] xs).2 = xs))
      have HTY := Lib.hid (ti_of_puts (by rw [hyp] : (putsT [] ys).2 = ys))
      have HPX := Lib.hid (show (∀ x ∈ xs, x.1.size ≤ 90000) ∧ (∀ x ∈ xs, x.2.data.size ≤ maxLen) from ⟨fun x hx => by have := (hxs x hx).1; omega, fun x hx => by have := (hxs x hx).2; unfold maxLen; omega⟩)
      have HPY := Lib.hid (show (∀ x ∈ ys, x.1.size ≤ 90000) ∧ (∀ x ∈ ys, x.2.data.size ≤ maxLen) from ⟨fun x hx => by have := (hys x hx).1; omega, fun x hx => by have := (hys x hx).2; unfold maxLen; omega⟩)
      have HT1 := Lib.hid (fun W' (hb : Below w.heap.size w W') => treeOf_any W' (.slice A3 n3 c3) xs (HS.out.2.1.1.below hb (Nat.le_refl _)) (by omega) (fun x hx => ⟨HPX.out.1 x hx, (HS.out.2.2.1 x hx).2⟩) HTX.out)
      have HT2 := Lib.hid (fun W' (hb : Below w.heap.size w W') => treeOf_any W' (.slice A4 n4 c4) ys (HS.out.2.1.2.below hb (Nat.le_refl _)) (by omega) (fun x hx => ⟨HPY.out.1 x hx, (HS.out.2.2.2 x hx).2⟩) HTY.out)
      clear hl1 hl2 hmz hxl hxs hxp hyl hys hyp
      have y0 := H2.out.2.2.1.cell 0
      simp only [List.getElem?_toArray, List.getElem?_cons_succ, List.getElem?_cons_zero] at y0
      go_wp2_with fail
      refine (HT1.out w2 H2.out.1).mono ?_
      rintro e w3 ⟨bt, bm, rfl, hT, -, -, hb3⟩
      have H3 := Lib.hid (And.intro (H2.out.1.trans (hb3.mono H2.out.1.size)) (And.intro (H2.out.2.1.below hb3 H2.out.2.1.lt) (And.intro (H2.out.2.2.1.below hb3 H2.out.2.2.1.lt) hT))); clear hb3 hT HT1 y0
      have y1 := H3.out.2.2.1.cell 1
      simp only [List.getElem?_toArray, List.getElem?_cons_succ, List.getElem?_cons_zero] at y1
      go_wp2_with fail
      refine (HT2.out w3 H3.out.1).mono ?_
      rintro e w4 ⟨bt2, bm2, rfl, hT2, -, -, hb4⟩
      have H4 := Lib.hid (And.intro (H3.out.1.trans (hb4.mono H3.out.1.size)) (And.intro (H3.out.2.1.below hb4 H3.out.2.1.lt) (And.intro (H3.out.2.2.2.below hb4) hT2))); clear hb4 hT2 HT2 y1
      have hZ : ∀ m ∈ l1 ++ l2, m.1.size ≤ 90000 := fun m hm => by have := HLL.out.2.1 m hm; omega
      have hzz : ∀ zs, zs = xs ∨ zs = ys → zs.length ≤ 1000 ∧ ∀ e ∈ zs, e.2.data.size ≤ maxLen := fun zs hz => by
        rcases hz with rfl | rfl
        · exact ⟨by have := HLL.out.2.2.1; omega, HPX.out.2⟩
        · exact ⟨by have := HLL.out.2.2.2; omega, HPY.out.2⟩
      have HAL := Lib.hid (fun W' (hb : Below w.heap.size w W') b1 m1 b2 m2 zs ts (hz : zs = xs ∨ zs = ys) (ht : ts = xs ∨ ts = ys) (k1 : TreeAt W' b1 m1 zs) (k2 : TreeAt W' b2 m2 ts) => reconAll_any W' (.slice A1 n1 c1) (.slice A2 n2 c2) l1 l2 b1 m1 b2 m2 zs ts (HS.out.1.1.below hb (Nat.le_refl _)) (HS.out.1.2.below hb (Nat.le_refl _)) (by have := HLL.out.1.1; omega) (by have := HLL.out.1.2; omega) (fun m hm => hZ m (List.mem_append_left _ hm)) (fun m hm => hZ m (List.mem_append_right _ hm)) k1 k2 (hzz zs hz).1 (hzz ts ht).1 (hzz zs hz).2 (hzz ts ht).2)
      clear hzz
      clear hZ
      have HTU := Lib.hid (And.intro (allR_turn (L := l1 ++ l2) HTX.out HTY.out) (And.intro (allR_len (l1 ++ l2) xs ys) (And.intro (fun f (hf : f ∈ allR (l1 ++ l2) xs xs) => allR_self hf) (show (allR (l1 ++ l2) xs ys).length ≤ 1000 ∧ (allR (l1 ++ l2) xs xs).length ≤ 1000 from by
        unfold allR
        rw [List.length_map, List.length_map]
        have := HLL.out
        exact ⟨Nat.le_trans (pathsS_len _) (by simp only [List.length_append, List.length_map]; omega), Nat.le_trans (pathsS_len _) (by simp only [List.length_append, List.length_map]; omega)⟩))))
      go_upto_region 5 with fail
      have x0 := H4.out.2.1.cell 0
      have x1 := H4.out.2.1.cell 1
      simp only [List.getElem?_toArray, List.getElem?_cons_succ, List.getElem?_cons_zero] at x0 x1
      have k0 : ∀ m : Held (Aft w4), (HeldW m).cell? ⟨G, 0, none⟩ = some (.slice A1 n1 c1) := fun m => (Aft.cell m H4.out.2.1.lt).trans x0
      have k1 : ∀ m : Held (Aft w4), (HeldW m).cell? ⟨G, 1, none⟩ = some (.slice A2 n2 c2) := fun m => (Aft.cell m H4.out.2.1.lt).trans x1
      have HC0 := Lib.hid (Aft.start w4)
      clear x0 x1
      refine wp_region_mix (Aft w4) [(0, true), (1, true), (2, true), (4, true), (5, true), (6, true), (3, false), (7, false), (8, true), (9, true)] (by kernel_rfl) (by kernel_rfl) ?_
      simp only [pickP, List.filterMap_cons, List.filterMap_nil, List.getElem?_toArray, List.getElem?_cons_succ, List.getElem?_cons_zero, Option.map_some]
      repeat (apply mix_first; apply Exists.intro; refine ⟨fun m => ?_, HC0.out, ?_⟩; · (go_big_quiet_step (fail); exact wpQuiet_nil rfl))
      refine mix_forced HC0.out ?_
      go_wp2_with fail
      have hb4d : Below w.heap.size w w4.drew := H4.out.1.drew
      refine (HAL.out w4.drew hb4d bt bm bt2 bm2 xs ys (.inl rfl) (.inr rfl) (H4.out.2.2.1.below HC0.out) (H4.out.2.2.2.below HC0.out)).mono ?_
      rintro e w5 ⟨u, rfl, ho, hb5⟩
      have hA5 : Aft w4 w5 := Aft.keep _ _ HC0.out hb5
      have ho5 := own_wide ho HC0.out.size
      have hn0 := HTU.out.2.2.2.1
      obtain ⟨n, hn⟩ : ∃ n, (allR (l1 ++ l2) xs ys).length = n := ⟨_, rfl⟩
      have hn2 : (allR (l1 ++ l2) ys xs).length = n := HTU.out.2.1.symm.trans hn
      rw [hn] at ho5 hn0
      have HN := Lib.hid (And.intro hn hn2)
      obtain ⟨A5, c5, rfl, hc5, -, -⟩ := SlV_of_any ho5
      have H5 := Lib.hid (And.intro hA5 ho5)
      clear ho hb5 hA5 ho5 hn hn2 hb4d
      go_wp2_with fail
      show mixC _ _ _ _ _ _ _
      refine mix_forced H5.out.1 ?_
      go_wp2_with fail
      refine (HAL.out w5 (H4.out.1.trans (H5.out.1.mono H4.out.1.size)) bt2 bm2 bt bm ys xs (.inr rfl) (.inl rfl) (H4.out.2.2.2.below H5.out.1) (H4.out.2.2.1.below H5.out.1)).mono ?_
      rintro e w6 ⟨u, rfl, ho, hb6⟩
      have hA6 : Aft w4 w6 := Aft.keep _ _ H5.out.1 hb6
      have ho6 := own_wide ho H5.out.1.size
      rw [HN.out.2] at ho6
      obtain ⟨A6, c6, rfl, hc6, -, -⟩ := SlV_of_any ho6
      have H6 := Lib.hid (And.intro hA6 (And.intro (own_kept H5.out.2 hb6) ho6))
      clear ho hb6 hA6 ho6 HC0
      go_wp2_with fail
      show mixC _ _ _ _ _ _ _
      repeat (apply mix_first; apply Exists.intro; refine ⟨fun m => ?_, H6.out.1, ?_⟩; · (go_big_quiet_step (fail); exact wpQuiet_nil rfl))
      refine mix_nil H6.out.1 ?_
      clear k0 k1
      go_wp2_with fail
      go_loopw [60] (fun iv wr => ∃ i : Nat, iv = .int .i64 i ∧ i ≤ n ∧ Aft w6 wr) (fun iv _ => n - (intOf iv).toNat)
      case atStart => exact ⟨0, rfl, Nat.zero_le _, Below.refl _ _⟩
      case round =>
        obtain ⟨i, rfl, hi, hb⟩ := hrel
        by_cases hlt : i < n
        · have hiA : i < (allR (l1 ++ l2) xs ys).length := by have := HN.out.1; omega
          have hiB : i < (allR (l1 ++ l2) ys xs).length := by have := HN.out.2; omega
          have hoA := own_kept H6.out.2.1 hb
          have hoB := own_kept H6.out.2.2 hb
          rw [← HN.out.1] at hoA
          rw [← HN.out.2] at hoB
          obtain ⟨A', c', hA', _, _, hso⟩ := SlV.of_own (l := allR (l1 ++ l2) xs ys) hoA eCR_len (by decide)
          obtain ⟨B', k', hB', _, _, hsb⟩ := SlV.of_own (l := allR (l1 ++ l2) ys xs) hoB eCR_len (by decide)
          obtain ⟨rfl, rfl⟩ : A5 = A' ∧ c5 = c' := by injection hA' with e1 e2 e3; exact ⟨e1, e3⟩
          obtain ⟨rfl, rfl⟩ : A6 = B' ∧ c6 = k' := by injection hB' with e1 e2 e3; exact ⟨e1, e3⟩
          clear hA' hB' hoA hoB
          obtain ⟨b, off, rfl, hbb, hcs⟩ := hso (by omega)
          obtain ⟨b', off', rfl, hbb', hds⟩ := hsb (by omega)
          have c0 := hcs i hiA 0 (by omega)
          have c1 := hcs i hiA 1 (by omega)
          have c2 := hcs i hiA 2 (by omega)
          have c3 := hcs i hiA 3 (by omega)
          have c4 := hcs i hiA 4 (by omega)
          have c5 := hcs i hiA 5 (by omega)
          have c6 := hcs i hiA 6 (by omega)
          have c7 := hcs i hiA 7 (by omega)
          have c8 := hcs i hiA 8 (by omega)
          have c9 := hcs i hiA 9 (by omega)
          have c10 := hcs i hiA 10 (by omega)
          simp only [eCR, List.getElem?_cons_succ, List.getElem?_cons_zero, Nat.add_zero] at c0 c1 c2 c3 c4 c5 c6 c7 c8 c9 c10
          have d0 := hds i hiB 0 (by omega)
          have d1 := hds i hiB 1 (by omega)
          have d2 := hds i hiB 2 (by omega)
          have d3 := hds i hiB 3 (by omega)
          have d4 := hds i hiB 4 (by omega)
          have d5 := hds i hiB 5 (by omega)
          have d6 := hds i hiB 6 (by omega)
          have d7 := hds i hiB 7 (by omega)
          have d8 := hds i hiB 8 (by omega)
          have d9 := hds i hiB 9 (by omega)
          have d10 := hds i hiB 10 (by omega)
          simp only [eCR, List.getElem?_cons_succ, List.getElem?_cons_zero, Nat.add_zero] at d0 d1 d2 d3 d4 d5 d6 d7 d8 d9 d10
          clear hcs hds hso hsb
          have hi1 : (i : Int) < n := by omega
          have ht := HTU.out.1 i hiA hiB
          obtain ⟨⟨q, v, cl, ⟨ak, am, at', ad⟩, ⟨ck, cm, ct, cd⟩⟩, hx⟩ : ∃ x, (allR (l1 ++ l2) xs ys)[i] = x := ⟨_, rfl⟩
          obtain ⟨⟨q', v', cl', ⟨ek, em, et, ed⟩, nd'⟩, hy⟩ : ∃ x, (allR (l1 ++ l2) ys xs)[i] = x := ⟨_, rfl⟩
          simp only [hx] at c0 c1 c2 c3 c4 c5 c6 c7 c8 c9 c10
          simp only [hy] at d0 d1 d2 d3 d4 d5 d6 d7 d8 d9 d10
          rw [hx, hy] at ht
          clear hx hy
          obtain ⟨e1, e2, e3, hv⟩ := ht
          dsimp only at e1 e2 e3 hv
          subst e1 e2 e3
          have hba := ((Below.refl wr.heap.size wr).alloc (Nat.le_refl _) (.cells #[.string q', .int .i64 v, .int .i64 cl', .int .i64 ak, .int .i64 am, .int .u32 at', .string ad, .int .i64 ck, .int .i64 cm, .int .u32 ct, .string cd] 64)).alloc (by simp) (.cells #[.string q', .int .i64 v', .int .i64 cl', .int .i64 ek, .int .i64 em, .int .u32 et, .string ed, .int .i64 ak, .int .i64 am, .int .u32 at', .string ad] 64)
          have HR := Lib.hid (hb.trans (hba.mono hb.size))
          clear hba hb
          rcases hv with ⟨rfl, rfl⟩ | ⟨rfl, rfl⟩ | ⟨rfl, hv1, hv2⟩
          · go_wp2_with fail
            go_roundw
            case rel => exact ⟨i + 1, by go_num, by omega, HR.out⟩
            case measure => simp [intOf]; omega
          · go_wp2_with fail
            go_roundw
            case rel => exact ⟨i + 1, by go_num, by omega, HR.out⟩
            case measure => simp [intOf]; omega
          · have t1 : (v == 1) = false := by simpa using hv1
            have t2 : (v == 2) = false := by simpa using hv2
            go_wp2_with fail
            go_roundw
            case rel => exact ⟨i + 1, by go_num, by omega, HR.out⟩
            case measure => simp [intOf]; omega
        · obtain rfl : i = n := by omega
          have hwb := H4.out.1.trans ((H6.out.1.trans (hb.mono H6.out.1.size)).mono H4.out.1.size)
          have hb4 : Below w4.heap.size w4 wr := H6.out.1.trans (hb.mono H6.out.1.size)
          have hBx := H4.out.2.1.below hb4 H4.out.2.1.lt
          have x0 := hBx.cell 0
          have x1 := hBx.cell 1
          simp only [List.getElem?_toArray, List.getElem?_cons_succ, List.getElem?_cons_zero] at x0 x1
          have hT := H4.out.2.2.1.below hb4
          have HB := Lib.hid (And.intro hwb hT)
          clear hb hwb hb4 hBx hT
          go_wp2_with fail
          refine (HAL.out wr HB.out.1 bt bm bt bm xs xs (.inl rfl) (.inl rfl) HB.out.2 HB.out.2).mono ?_
          rintro e w7 ⟨u, rfl, ho, hb7⟩
          have hsl := ho.slv
          have hcnt := reconCount_any w7 u (allR (l1 ++ l2) xs xs) hsl (by have := HTU.out.2.2.2.2; omega) (fun f hf => .inl (HTU.out.2.2.1 f hf))
          rw [cntR_none 1 _ HTU.out.2.2.1 (by decide), cntR_none 2 _ HTU.out.2.2.1 (by decide), cntR_none 3 _ HTU.out.2.2.1 (by decide)] at hcnt
          generalize cntR 0 (allR (l1 ++ l2) xs xs) = z0 at *
          have HCN := Lib.hid hcnt
          have H7 := Lib.hid (HB.out.1.trans (hb7.mono HB.out.1.size))
          obtain ⟨A7, c7, rfl, _, _, _⟩ := SlV_of_any ho
          clear x0 x1 ho hb7 hsl hcnt
          generalize (allR (l1 ++ l2) xs xs).length = n7 at *
          go_wp2_with fail
          refine HCN.out.mono ?_
          rintro e w8 ⟨rfl, hb8⟩
          have H8 := Lib.hid (H7.out.trans (hb8.mono H7.out.size))
          clear hb8 HCN
          have hwa : IntKind.i64.wrap ((0 : Int) + 0) = 0 := by decide
          go_wp2_with fail
          refine (recon_lives _).mono ?_
          rintro e w9 ⟨rfl, hb9⟩
          have H9 := Lib.hid ((H8.out.alloc H8.out.size _).trans (hb9.mono (H8.out.alloc H8.out.size _).size))
          clear hb9
          go_wp2_with fail
          go_ret
          exact ⟨rfl, H9.out⟩
end Go.Proofs.YteofiffbobbdmaaGreatDoor
/- The walk of ReconTurns in the statement's form. -/
set_option linter.unusedVariables false
set_option linter.unusedSimpArgs false
namespace Go.Proofs.YteofiffbobbdmaaGreatDoor
open Go Go.ChangeShapes Go.WideShapes Go.ChangeAt Go.RowKit
open Sw
set_option maxRecDepth 100000 in
theorem reconTurns_walk : Walks 6 Tryz.f6 := by
  intro H enc W base args ds ps hval hA hlt hsz
  rw [Tryz.params6] at hA hval
  obtain ⟨v0, v1, d0, d1, p0, p1, rfl, rfl, rfl, h0, h1⟩ := trodAll_two hA
  obtain ⟨u1, u2, l1, l2, rfl, s1, s2, i1, i2⟩ := open_base (hval 0 24 v0 rfl rfl) h0
  obtain ⟨w1, w2, xs, ys, rfl, g1, g2, j1, j2⟩ := open_items2 (hval 1 57 v1 rfl rfl) h1
  exact reconTurns_main W u1 u2 l1 l2 s1 s2 (fun m hm => (i1 m hm).2.2.2.1) (fun m hm => (i2 m hm).2.2.2.1) w1 w2 xs ys g1 g2 (fun x hx => j1 x hx) (fun x hx => j2 x hx)
end Go.Proofs.YteofiffbobbdmaaGreatDoor
