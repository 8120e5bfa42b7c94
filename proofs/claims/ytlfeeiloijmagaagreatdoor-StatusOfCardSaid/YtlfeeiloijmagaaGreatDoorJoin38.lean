/- Several texts, joined for the limit of sixty files; each one opens with its own comment. -/
import Derived.Test.YtlfeeiloijmagaaGreatDoorJoin35
import Derived.Test.YtlfeeiloijmagaaGreatDoorJoin30
import Derived.Test.YtlfeeiloijmagaaGreatDoorJoin37
import Derived.Test.YtlfeeiloijmagaaGreatDoorJoin1
import Derived.Test.YtlfeeiloijmagaaGreatDoorJoin17
/- Law 29's Light, of any Base and items. -/
set_option linter.unusedVariables false
set_option linter.unusedSimpArgs false
namespace Go.Proofs.YtlfeeiloijmagaaGreatDoor
open Go Go.RowKit
open Sw
/-- what law 29's Light answers -/
def Light29 (l1 l2 : List MkE) (l : List NE) (e : Ending) : Prop := ∃ R : Bool, e = .returned (.bool R) ∧ (R = true → (l1.length ≤ 30 ∧ l2.length ≤ 30 ∧ ∀ m ∈ l1 ++ l2, m.1.size ≤ 150) ∧ l.length ≤ 30 ∧ (∀ e ∈ l, SmallE e) ∧ putsT [] l = (0, l))
theorem Light29.no {l1 l2 : List MkE} {l : List NE} : Light29 l1 l2 l (.returned (.bool false)) := ⟨false, rfl, fun h => (by cases h)⟩
set_option maxRecDepth 100000 in
set_option maxHeartbeats 4000000 in
theorem light29_any (w : World) (u1 u2 : Value) (l1 l2 : List MkE) (h1 : SlV w 6 eCM u1 l1) (h2 : SlV w 6 eCM u2 l2) (hin1 : ∀ m ∈ l1, 0 ≤ m.2.time ∧ m.2.time < 4294967296) (hin2 : ∀ m ∈ l2, 0 ≤ m.2.time ∧ m.2.time < 4294967296)
    (v : Value) (l : List NE) (h : SlV w 5 eCSN v l) (hin : ∀ x ∈ l, x.1.size ≤ maxLen ∧ NdIn x.2) :
    Calls Tryz.prog 4 #[.agg #[u1, u2], v] w fun e w' => Light29 l1 l2 l e ∧ Below w.heap.size w w' := by
  have hb0 : Below w.heap.size w (w.alloc (.cells #[u1, u2] 24)) := (Below.refl _ w).alloc (Nat.le_refl _) _
  have hB0 := Blk.new w 24 #[u1, u2]
  have HL := Lib.hid (light26_any _ u1 u2 l1 l2 (h1.below hb0 (Nat.le_refl _)) (h2.below hb0 (Nat.le_refl _)))
  have HM := Lib.hid (And.intro (And.intro h1 h2) (And.intro hin1 hin2)); clear hin1 hin2
  have H0 := Lib.hid (And.intro hb0 (And.intro hB0 (And.intro h hin)))
  obtain ⟨A, c, rfl, _, _, _⟩ := h
  obtain ⟨A1, c1, rfl, _, _, _⟩ := h1
  obtain ⟨A2, c2, rfl, _, _, _⟩ := h2
  obtain ⟨k1, hk1⟩ : ∃ n, l1.length = n := ⟨_, rfl⟩
  obtain ⟨k2, hk2⟩ : ∃ n, l2.length = n := ⟨_, rfl⟩
  rw [hk1, hk2] at HL H0 HM hB0 hb0 ⊢
  clear hk1 hk2 hb0 hB0 hin
  obtain ⟨n, hn⟩ : ∃ n, l.length = n := ⟨_, rfl⟩
  rw [hn] at H0
  rw [hn]
  have HN := Lib.hid hn; clear hn
  go_enter Tryz.func4, Tryz.ntmps4
  go_wp2_with fail
  refine HL.out.mono ?_
  rintro e w1 ⟨⟨R, rfl, hR1⟩, hb1⟩
  have hB1 := H0.out.2.1.below hb1 H0.out.2.1.lt
  have x0 := hB1.cell 0
  have x1 := hB1.cell 1
  simp at x0 x1
  have H1 := Lib.hid (And.intro (H0.out.1.trans (hb1.mono H0.out.1.size)) hR1); clear hb1 hB1 hR1
  cases R with
  | false =>
    go_wp2_with fail
    go_ret
    exact ⟨.no, H1.out.1⟩
  | true =>
    have hl := H1.out.2 rfl
    have HR := Lib.hid (right26_any w1 (.slice A1 k1 c1) (.slice A2 k2 c2) l1 l2 (HM.out.1.1.below H1.out.1 (Nat.le_refl _)) (HM.out.1.2.below H1.out.1 (Nat.le_refl _)) (by have := hl.1; omega) (by have := hl.2.1; omega) (fun m hm => ⟨by have := hl.2.2 m (List.mem_append_left _ hm); omega, HM.out.2.1 m hm⟩) (fun m hm => ⟨by have := hl.2.2 m (List.mem_append_right _ hm); omega, HM.out.2.2 m hm⟩))
    have HLL := Lib.hid hl; clear hl
    go_wp2_with fail
    refine HR.out.mono ?_
    rintro e w2 ⟨⟨R, rfl⟩, hb2⟩
    have H2 := Lib.hid (H1.out.1.trans (hb2.mono H1.out.1.size)); clear hb2 x0 x1 HR
    cases R with
    | false =>
      go_wp2_with fail
      go_ret
      exact ⟨.no, H2.out⟩
    | true =>
      have HLI := Lib.hid (light16_any w2 (.slice A n c) l (H0.out.2.2.1.below H2.out (Nat.le_refl _)) (fun e he => ⟨(H0.out.2.2.2 e he).1, (H0.out.2.2.2 e he).2.size⟩))
      go_wp2_with fail
      refine HLI.out.mono ?_
      rintro e w3 ⟨R, rfl, hR, hb3⟩
      have H3 := Lib.hid (And.intro (H2.out.trans (hb3.mono H2.out.size)) hR); clear hb3 hR HLI
      cases R with
      | false =>
        go_wp2_with fail
        go_ret
        exact ⟨.no, H3.out.1⟩
      | true =>
        obtain ⟨hl30, hsm⟩ := H3.out.2 rfl
        have HRR := Lib.hid (ref16Right_any w3 (.slice A n c) l (H0.out.2.2.1.below H3.out.1 (Nat.le_refl _)) (by omega) (fun x hx => ⟨by have := (hsm x hx).1; omega, (H0.out.2.2.2 x hx).2⟩))
        have HSM := Lib.hid (And.intro hl30 hsm); clear hl30 hsm
        go_wp2_with fail
        refine HRR.out.mono ?_
        rintro e w4 ⟨R, rfl, hR, hb4⟩
        have H4 := Lib.hid (And.intro (H3.out.1.trans (hb4.mono H3.out.1.size)) hR); clear hb4 hR HRR
        go_wp2_with fail
        go_ret
        exact ⟨⟨R, rfl, fun h => ⟨HLL.out, HN.out ▸ HSM.out.1, HSM.out.2, H4.out.2.1 h⟩⟩, H4.out.1⟩
end Go.Proofs.YtlfeeiloijmagaaGreatDoor
/- StatusOf: what a synchronisation of any two sides would do, path by path, and what isn't kept. -/
set_option linter.unusedVariables false
set_option linter.unusedSimpArgs false
namespace Go.Proofs.YtlfeeiloijmagaaGreatDoor
open Go Go.RowKit
open Sw
/-- the law's two rows -/
def TwR (base : Nat) (wo bo : Value) (nw nb : Nat) (F Bz : List RowE) (W : World) : Prop :=
  Two W base 42 3 wo nw (F.flatMap eCRW) bo nb (Bz.flatMap eCRW) ∧ F.length = nw ∧ Bz.length = nb
theorem TwR.below {base : Nat} {wo bo : Value} {nw nb : Nat} {F Bz : List RowE} {W W' : World} (h : TwR base wo bo nw nb F Bz W) (hb : Below W.heap.size W W') : TwR base wo bo nw nb F Bz W' := ⟨h.1.kept hb, h.2⟩
theorem TwR.left {base : Nat} {wo bo : Value} {nw nb : Nat} {F Bz : List RowE} {x : RowE} {W W' : World} (h : TwR base wo bo nw nb F Bz W) {g cap : Nat} (ho : W'.ownsRow base 42 3 (.slice (some ⟨g, 0, none⟩) (nw + 1) cap) (nw + 1) (F.flatMap eCRW ++ eCRW x)) (hg : W.grownBy W' wo.ownBlock) (hat : wo.ownBlock = some g ∨ g = W.heap.size) : TwR base (.slice (some ⟨g, 0, none⟩) (nw + 1) cap) bo (nw + 1) nb (F ++ [x]) Bz W' := by
  refine ⟨h.1.left (by rw [List.flatMap_append]; simpa using ho) hg hat, by rw [List.length_append, h.2.1]; rfl, h.2.2⟩
theorem TwR.right {base : Nat} {wo bo : Value} {nw nb : Nat} {F Bz : List RowE} {x : RowE} {W W' : World} (h : TwR base wo bo nw nb F Bz W) {g cap : Nat} (ho : W'.ownsRow base 42 3 (.slice (some ⟨g, 0, none⟩) (nb + 1) cap) (nb + 1) (Bz.flatMap eCRW ++ eCRW x)) (hg : W.grownBy W' bo.ownBlock) (hat : bo.ownBlock = some g ∨ g = W.heap.size) : TwR base wo (.slice (some ⟨g, 0, none⟩) (nb + 1) cap) nw (nb + 1) F (Bz ++ [x]) W' := by
  refine ⟨h.1.right (by rw [List.flatMap_append]; simpa using ho) hg hat, h.2.1, by rw [List.length_append, h.2.2]; rfl⟩
theorem TwR.slvA {base : Nat} {wo bo : Value} {nw nb : Nat} {F Bz : List RowE} {W : World} (h : TwR base wo bo nw nb F Bz W) : SlV W 3 eCRW wo F := by
  obtain ⟨h1, h2, h3⟩ := h
  subst h2
  exact SlV.of_own h1.a eCRW_len (by decide)
theorem TwR.slvB {base : Nat} {wo bo : Value} {nw nb : Nat} {F Bz : List RowE} {W : World} (h : TwR base wo bo nw nb F Bz W) : SlV W 3 eCRW bo Bz := by
  obtain ⟨h1, h2, h3⟩ := h
  subst h3
  exact SlV.of_own h1.b eCRW_len (by decide)
set_option maxRecDepth 100000 in
set_option maxHeartbeats 8000000 in
theorem statusOf_main (w : World) (u1 u2 : Value) (l1 l2 : List MkE) (h1 : SlV w 6 eCM u1 l1) (h2 : SlV w 6 eCM u2 l2) (hin1 : ∀ m ∈ l1, 0 ≤ m.2.time ∧ m.2.time < 4294967296) (hin2 : ∀ m ∈ l2, 0 ≤ m.2.time ∧ m.2.time < 4294967296)
    (v1 v2 : Value) (xs ys : List NE) (g1 : SlV w 5 eCSN v1 xs) (g2 : SlV w 5 eCSN v2 ys) (hx : ∀ x ∈ xs, x.1.size ≤ maxLen ∧ NdIn x.2) (hy : ∀ x ∈ ys, x.1.size ≤ maxLen ∧ NdIn x.2) :
    Calls Tryz.prog 3 #[.agg #[u1, u2], .agg #[v1, v2]] w fun e w' => e = .returned (.bool true) ∧ Below w.heap.size w w' := by
  obtain ⟨W, hW⟩ : ∃ W, (w.alloc (.cells #[u1, u2] 24)).alloc (.cells #[v1, v2] 26) = W := ⟨_, rfl⟩
  have hb0 : Below w.heap.size w W := by rw [← hW]; exact ((Below.refl _ w).alloc (Nat.le_refl _) _).alloc (by simp) _
  have hB0 : Blk W w.heap.size 24 #[u1, u2] := by rw [← hW]; exact blk_fst _ _ _ _
  have hI0 : Blk W (w.heap.size + 1) 26 #[v1, v2] := by rw [← hW]; exact blk_snd _ _ _ _
  have HLI := Lib.hid (fun W' (hb : Below w.heap.size w W') => light29_any W' u1 u2 l1 l2 (h1.below hb (Nat.le_refl _)) (h2.below hb (Nat.le_refl _)) hin1 hin2 v1 xs (g1.below hb (Nat.le_refl _)) hx)
  have HLJ := Lib.hid (fun W' (hb : Below w.heap.size w W') => light29_any W' u1 u2 l1 l2 (h1.below hb (Nat.le_refl _)) (h2.below hb (Nat.le_refl _)) hin1 hin2 v2 ys (g2.below hb (Nat.le_refl _)) hy)
  have HS := Lib.hid (And.intro (And.intro h1 h2) (And.intro (And.intro g1 g2) (And.intro hx hy)))
  clear hin1 hin2 hx hy
  obtain ⟨A1, c1, rfl, _, _, _⟩ := h1
  obtain ⟨A2, c2, rfl, _, _, _⟩ := h2
  obtain ⟨A3, c3, rfl, _, _, _⟩ := g1
  obtain ⟨A4, c4, rfl, _, _, _⟩ := g2
  obtain ⟨n1, hn1⟩ : ∃ n, l1.length = n := ⟨_, rfl⟩
  obtain ⟨n2, hn2⟩ : ∃ n, l2.length = n := ⟨_, rfl⟩
  obtain ⟨n3, hn3⟩ : ∃ n, xs.length = n := ⟨_, rfl⟩
  obtain ⟨n4, hn4⟩ : ∃ n, ys.length = n := ⟨_, rfl⟩
  have HL := Lib.hid (And.intro (And.intro hn1 hn2) (And.intro hn3 hn4))
  rw [hn1, hn2, hn3] at HLI
  rw [hn1, hn2, hn4] at HLJ
  rw [hn1, hn2, hn3, hn4] at HS
  rw [hn1, hn2, hn3, hn4] at hW
  rw [hn1, hn2] at hB0
  rw [hn3, hn4] at hI0
  rw [hn1, hn2, hn3, hn4]
  clear hn1 hn2 hn3 hn4
  have x0 := hB0.cell 0
  have x1 := hB0.cell 1
  have y0 := hI0.cell 0
  have y1 := hI0.cell 1
  simp only [List.getElem?_toArray, List.getElem?_cons_succ, List.getElem?_cons_zero] at x0 x1 y0 y1
  obtain ⟨G, hG⟩ : ∃ G, w.heap.size = G := ⟨_, rfl⟩
  rw [hG] at hB0 hI0 x0 x1 y0 y1
  have HW := Lib.hid (And.intro hW (And.intro hb0 (And.intro hB0 (And.intro hI0 hG)))); clear hW hb0 hB0 hI0
  go_enter Tryz.func3, Tryz.ntmps3
  go_upto_region 1 with fail
  rw [HW.out.1]
  clear hG
  go_wp2_with fail
  refine (HLI.out W HW.out.2.1).mono ?_
  rintro e w1 ⟨⟨R, rfl, hR⟩, hb1⟩
  have H1 := Lib.hid (And.intro (HW.out.2.1.trans (hb1.mono HW.out.2.1.size)) (And.intro (HW.out.2.2.1.below hb1 HW.out.2.2.1.lt) (And.intro (HW.out.2.2.2.1.below hb1 HW.out.2.2.2.1.lt) hR))); clear hb1 hR HLI x0 x1 y0 y1
  cases R with
  | false =>
    go_wp2_with fail
    refine (stLives38_any _).mono ?_
    rintro e w2 ⟨rfl, hb2⟩
    have H2 := Lib.hid (H1.out.1.trans (hb2.mono H1.out.1.size)); clear hb2
    go_wp2_with fail
    go_ret
    exact ⟨rfl, H2.out⟩
  | true =>
    have x0 := H1.out.2.1.cell 0
    have x1 := H1.out.2.1.cell 1
    have y1 := H1.out.2.2.1.cell 1
    simp only [List.getElem?_toArray, List.getElem?_cons_succ, List.getElem?_cons_zero] at x0 x1 y1
    go_wp2_with fail
    refine (HLJ.out w1 H1.out.1).mono ?_
    rintro e w2 ⟨⟨R, rfl, hR⟩, hb2⟩
    have H2 := Lib.hid (And.intro (H1.out.1.trans (hb2.mono H1.out.1.size)) (And.intro (H1.out.2.1.below hb2 H1.out.2.1.lt) (And.intro (H1.out.2.2.1.below hb2 H1.out.2.2.1.lt) hR))); clear hb2 hR HLJ x0 x1 y1
    cases R with
    | false =>
      go_wp2_with fail
      refine (stLives38_any _).mono ?_
      rintro e w3 ⟨rfl, hb3⟩
      have H3 := Lib.hid (H2.out.1.trans (hb3.mono H2.out.1.size)); clear hb3
      go_wp2_with fail
      go_ret
      exact ⟨rfl, H3.out⟩
    | true =>
      obtain ⟨⟨hl1, hl2, hmz⟩, hxl, hxs, hxp⟩ := H1.out.2.2.2 (by first | rfl | trivial)
      obtain ⟨-, hyl, hys, hyp⟩ := H2.out.2.2.2 (by first | rfl | trivial)
      have HLL := Lib.hid (And.intro (And.intro hl1 hl2) (And.intro hmz (And.intro hxl hyl)))
      have HTX := Lib.hid (ti_of_puts (by rw [hxp] : (putsT [] xs).2 = xs))
      have HTY := Lib.hid (ti_of_puts (by rw [hyp] : (putsT [] ys).2 = ys))
      have HPX := Lib.hid (show (∀ x ∈ xs, x.1.size ≤ 90000) ∧ (∀ x ∈ xs, x.2.data.size ≤ maxLen) from ⟨fun x hx => by have := (hxs x hx).1; omega, fun x hx => by have := (hxs x hx).2; unfold maxLen; omega⟩)
      have HPY := Lib.hid (show (∀ x ∈ ys, x.1.size ≤ 90000) ∧ (∀ x ∈ ys, x.2.data.size ≤ maxLen) from ⟨fun x hx => by have := (hys x hx).1; omega, fun x hx => by have := (hys x hx).2; unfold maxLen; omega⟩)
      have HT1 := Lib.hid (fun W' (hb : Below w.heap.size w W') => treeOf_any W' (.slice A3 n3 c3) xs (HS.out.2.1.1.below hb (Nat.le_refl _)) (by omega) (fun x hx => ⟨HPX.out.1 x hx, (HS.out.2.2.1 x hx).2⟩) HTX.out)
      have HT2 := Lib.hid (fun W' (hb : Below w.heap.size w W') => treeOf_any W' (.slice A4 n4 c4) ys (HS.out.2.1.2.below hb (Nat.le_refl _)) (by omega) (fun x hx => ⟨HPY.out.1 x hx, (HS.out.2.2.2 x hx).2⟩) HTY.out)
      clear hl1 hl2 hmz hxl hxs hxp hyl hys hyp
      have y0 := H2.out.2.2.1.cell 0
      simp only [List.getElem?_toArray, List.getElem?_cons_succ, List.getElem?_cons_zero] at y0
      go_wp2_with fail
      refine (HT1.out w2 H2.out.1).mono ?_
      rintro e w3 ⟨bt, bm, rfl, hT, -, -, hb3⟩
      have H3 := Lib.hid (And.intro (H2.out.1.trans (hb3.mono H2.out.1.size)) (And.intro (H2.out.2.1.below hb3 H2.out.2.1.lt) (And.intro (H2.out.2.2.1.below hb3 H2.out.2.2.1.lt) hT))); clear hb3 hT HT1 y0
      have y1 := H3.out.2.2.1.cell 1
      simp only [List.getElem?_toArray, List.getElem?_cons_succ, List.getElem?_cons_zero] at y1
      go_wp2_with fail
      refine (HT2.out w3 H3.out.1).mono ?_
      rintro e w4 ⟨bt2, bm2, rfl, hT2, -, -, hb4⟩
      have H4 := Lib.hid (And.intro (H3.out.1.trans (hb4.mono H3.out.1.size)) (And.intro (H3.out.2.1.below hb4 H3.out.2.1.lt) (And.intro (H3.out.2.2.2.below hb4) (And.intro hT2 (H3.out.2.2.1.below hb4 H3.out.2.2.1.lt))))); clear hb4 hT2 HT2 y1
      have hZ : ∀ m ∈ l1 ++ l2, m.1.size ≤ 90000 := fun m hm => by have := HLL.out.2.1 m hm; omega
      have HOF := Lib.hid (fun W' (hb : Below w.heap.size w W') (k1 : TreeAt W' bt bm xs) (k2 : TreeAt W' bt2 bm2 ys) => statusOf_any W' (.slice A1 n1 c1) (.slice A2 n2 c2) l1 l2 bt bm bt2 bm2 xs ys (HS.out.1.1.below hb (Nat.le_refl _)) (HS.out.1.2.below hb (Nat.le_refl _)) (by have := HLL.out.1.1; omega) (by have := HLL.out.1.2; omega) (fun m hm => hZ m (List.mem_append_left _ hm)) (fun m hm => hZ m (List.mem_append_right _ hm)) k1 k2 (by have := HLL.out.2.2.1; omega) (by have := HLL.out.2.2.2; omega) HPX.out.2 HPY.out.2)
      have HRL := Lib.hid (fun W' (hb : Below w.heap.size w W') => refAllR_any W' (.slice A1 n1 c1) (.slice A2 n2 c2) l1 l2 (HS.out.1.1.below hb (Nat.le_refl _)) (HS.out.1.2.below hb (Nat.le_refl _)) (by have := HLL.out.1.1; omega) (by have := HLL.out.1.2; omega) hZ (.slice A3 n3 c3) (.slice A4 n4 c4) xs ys (HS.out.2.1.1.below hb (Nat.le_refl _)) (HS.out.2.1.2.below hb (Nat.le_refl _)) (by have := HLL.out.2.2.1; omega) (by have := HLL.out.2.2.2; omega) (fun m hm => (List.mem_append.1 hm).elim (HPX.out.1 m) (HPY.out.1 m)) HTX.out.up HTY.out.up HPX.out.2 HPY.out.2)
      clear hZ
      have hlen : (allR (l1 ++ l2) xs ys).length ≤ 1000 := by
        unfold allR
        rw [List.length_map]
        have := HLL.out
        exact Nat.le_trans (pathsS_len _) (by simp only [List.length_append, List.length_map]; omega)
      generalize allR (l1 ++ l2) xs ys = ans at *
      obtain ⟨n, hn⟩ : ∃ n, ans.length = n := ⟨_, rfl⟩
      rw [hn] at hlen
      have HN := Lib.hid hn
      clear hn HTX HTY HPX HPY HLL HL
      have x0 := H4.out.2.1.cell 0
      have x1 := H4.out.2.1.cell 1
      simp only [List.getElem?_toArray, List.getElem?_cons_succ, List.getElem?_cons_zero] at x0 x1
      have y0 := H4.out.2.2.2.2.cell 0
      have y1 := H4.out.2.2.2.2.cell 1
      simp only [List.getElem?_toArray, List.getElem?_cons_succ, List.getElem?_cons_zero] at y0 y1
      go_wp2_with fail
      refine (HRL.out w4 H4.out.1).mono ?_
      rintro e w5 ⟨⟨u, rfl, ho⟩, hb5⟩
      have hslF := ho.slv
      unfold OwnS30 at ho
      rw [HN.out] at ho
      obtain ⟨A5, c5, rfl, hc5, -, -⟩ := SlV_of_any ho
      have H5 := Lib.hid (And.intro (H4.out.1.trans (hb5.mono H4.out.1.size)) (And.intro (H4.out.2.1.below hb5 H4.out.2.1.lt) (And.intro (H4.out.2.2.1.below hb5) (And.intro (H4.out.2.2.2.1.below hb5) hslF))))
      clear hb5 ho hslF HRL x0 x1 y0 y1 H4
      go_wp2_with fail
      go_loopw [11, 12, 51] (fun wo bo iv wr => ∃ i nb : Nat, iv = .int .i64 i ∧ i ≤ n ∧ TwR w5.heap.size wo bo i nb (rowsR (ans.take i)) (busyR (rowsR (ans.take i))) wr ∧ Below w5.heap.size w5 wr) (fun _ _ iv _ => n - (intOf iv).toNat)
      case atStart => exact ⟨0, 0, rfl, Nat.zero_le _, ⟨⟨World.ownsRow_nil _ _ _ _, World.ownsRow_nil _ _ _ _, .inl rfl⟩, rfl, rfl⟩, Below.refl _ _⟩
      case round =>
        obtain ⟨i, nb, rfl, hi, hTw, hb⟩ := hrel
        by_cases hlt : i < n
        · have hiA : i < ans.length := by have := HN.out; omega
          obtain ⟨A', c', hA', _, _, hso⟩ := H5.out.2.2.2.2.below hb (Nat.le_refl _)
          obtain ⟨rfl, -, rfl⟩ : A5 = A' ∧ n = ans.length ∧ c5 = c' := by simpa using hA'
          clear hA'
          obtain ⟨b, off, rfl, hbb, hcs⟩ := hso (by omega)
          have cc0 := hcs i hiA 0 (by omega)
          have cc1 := hcs i hiA 1 (by omega)
          have cc2 := hcs i hiA 2 (by omega)
          have cc3 := hcs i hiA 3 (by omega)
          have cc4 := hcs i hiA 4 (by omega)
          have cc5 := hcs i hiA 5 (by omega)
          have cc6 := hcs i hiA 6 (by omega)
          have cc7 := hcs i hiA 7 (by omega)
          have cc8 := hcs i hiA 8 (by omega)
          have cc9 := hcs i hiA 9 (by omega)
          have cc10 := hcs i hiA 10 (by omega)
          simp only [eCR, List.getElem?_cons_succ, List.getElem?_cons_zero, Nat.add_zero] at cc0 cc1 cc2 cc3 cc4 cc5 cc6 cc7 cc8 cc9 cc10
          clear hcs hso hbb
          have hi1 : (i : Int) < n := by omega
          have hst1 := rowsR_step ans i hiA
          have hst2 := busyR_step ans i hiA
          have hnb : nb ≤ i := by
            have h1 := busyR_le (rowsR (ans.take i))
            have h2 := hTw.2.1
            have h3 := hTw.2.2
            omega
          obtain ⟨⟨q, v, cl, ⟨ak, am, at', ad⟩, ⟨ck, cm, ct, cd⟩⟩, hx⟩ : ∃ x, ans[i] = x := ⟨_, rfl⟩
          simp only [hx, rowR] at cc0 cc1 cc2 cc3 cc4 cc5 cc6 cc7 cc8 cc9 cc10 hst1 hst2
          clear hx
          have hwo := hTw.1.a.lt
          have hbo := hTw.1.b.lt
          obtain ⟨A6, k6, rfl, _, _, _⟩ := SlV_of_any hTw.1.a
          obtain ⟨A7, k7, rfl, _, _, _⟩ := SlV_of_any hTw.1.b
          have HST := Lib.hid (And.intro hst1 hst2)
          clear hst1 hst2
          generalize busyR (rowsR (ans.take i)) = Bz at *
          generalize rowsR (ans.take i) = F at *
          have hba : Below wr.heap.size wr ((wr.alloc (.cells #[.string q, .int .i64 v, .int .i64 cl, .int .i64 ak, .int .i64 am, .int .u32 at', .string ad, .int .i64 ck, .int .i64 cm, .int .u32 ct, .string cd] 40)).alloc (.cells #[.string q, .int .i64 v, .int .i64 cl] 42)) := ((Below.refl _ wr).alloc (Nat.le_refl _) _).alloc (by simp) _
          have hS : Blk ((wr.alloc (.cells #[.string q, .int .i64 v, .int .i64 cl, .int .i64 ak, .int .i64 am, .int .u32 at', .string ad, .int .i64 ck, .int .i64 cm, .int .u32 ct, .string cd] 40)).alloc (.cells #[.string q, .int .i64 v, .int .i64 cl] 42)) wr.heap.size 40 #[.string q, .int .i64 v, .int .i64 cl, .int .i64 ak, .int .i64 am, .int .u32 at', .string ad, .int .i64 ck, .int .i64 cm, .int .u32 ct, .string cd] := blk_fst _ _ _ _
          have hR : Blk ((wr.alloc (.cells #[.string q, .int .i64 v, .int .i64 cl, .int .i64 ak, .int .i64 am, .int .u32 at', .string ad, .int .i64 ck, .int .i64 cm, .int .u32 ct, .string cd] 40)).alloc (.cells #[.string q, .int .i64 v, .int .i64 cl] 42)) (wr.heap.size + 1) 42 #[.string q, .int .i64 v, .int .i64 cl] := blk_snd _ _ _ _
          go_upto_region 10 with fail
          obtain ⟨w6, hw6⟩ : ∃ w6, (wr.alloc (.cells #[.string q, .int .i64 v, .int .i64 cl, .int .i64 ak, .int .i64 am, .int .u32 at', .string ad, .int .i64 ck, .int .i64 cm, .int .u32 ct, .string cd] 40)).alloc (.cells #[.string q, .int .i64 v, .int .i64 cl] 42) = w6 := ⟨_, rfl⟩
          obtain ⟨gs, hgs⟩ : ∃ gs, wr.heap.size = gs := ⟨_, rfl⟩
          rw [hw6]
          rw [hw6] at hba hS hR
          rw [hgs] at hS hR ⊢
          rw [hgs] at hwo hbo
          have hTw6 := hTw.below hba
          have hb6 := hb.trans (hba.mono hb.size)
          have HK := Lib.hid (And.intro hwo hbo)
          have H6 := Lib.hid (And.intro hTw6 (And.intro hb6 (And.intro hS hR)))
          have z0 := hR.cell 0
          have z1 := hR.cell 1
          have z2 := hR.cell 2
          simp only [List.getElem?_toArray, List.getElem?_cons_succ, List.getElem?_cons_zero] at z0 z1 z2
          have hs6 := hb6.size
          clear hw6 hgs hba hS hR hTw6 hb6 hTw hb cc0 cc1 cc2 cc3 cc4 cc5 cc6 cc7 cc8 cc9 cc10 hwo hbo
          go_upto_region 11 with (at_builtin; refine wpList_app rfl _ _ 33 rfl w5.heap.size 42 (.agg #[.string ⟨#[]⟩, .int .i64 0, .int .i64 0]) 3 32 Tryz.underlying33 infoR38 rfl (by decide) _ i _ rfl (H6.out.1.1.a.alloc _) w6.heap.size 1 #[.string q, .int .i64 v, .int .i64 cl] 42 rfl (Blk.new _ _ _) rfl (by simp [Value.oneCell']) (by omega) (by decide) (by simp; omega) _ rfl ?_; intro g cap w7 hown1 hgrow1 hat hlt1)
          have hal : Below w6.heap.size w6 (w6.alloc (.cells #[.string q, .int .i64 v, .int .i64 cl] 42)) := (Below.refl _ w6).alloc (Nat.le_refl _) _
          have h7 : TwR w5.heap.size (.slice (some ⟨g, 0, none⟩) (i + 1) cap) (.slice A7 nb k7) (i + 1) nb (F ++ [(q, v, cl)]) Bz w7 := (H6.out.1.below hal).left (x := (q, v, cl)) hown1 hgrow1 hat
          have hb7 := own_below H6.out.1.1.a (H6.out.2.1.alloc hs6 _) hgrow1 (Nat.le_refl _) (by simp; omega)
          have hS7 := (H6.out.2.2.1.below hal H6.out.2.2.1.lt).grown hgrow1 (fun e => by have := (HK.out.1 _ e.symm).2; omega)
          have hR7 := (H6.out.2.2.2.below hal H6.out.2.2.2.lt).grown hgrow1 (fun e => by have := (HK.out.1 _ e.symm).2; omega)
          have y1 := hS7.cell 1
          have z0 := hR7.cell 0
          have z1 := hR7.cell 1
          have z2 := hR7.cell 2
          simp only [List.getElem?_toArray, List.getElem?_cons_succ, List.getElem?_cons_zero] at y1 z0 z1 z2
          have hs7 := hb7.size
          have H7 := Lib.hid (And.intro h7 hb7)
          clear hown1 hgrow1 hat hlt1 hal h7 hb7 hS7 hR7 H6
          by_cases hv : v = 0
          · have HV := Lib.hid hv
            subst hv
            go_wp2_with fail
            go_roundw
            case rel => exact ⟨i + 1, nb, by go_num, by omega, by rw [HST.out.2, HST.out.1, if_pos rfl, List.append_nil]; exact H7.out.1, H7.out.2⟩
            case measure => simp [intOf]; omega
          · have t0 : (v == 0) = false := by simpa using hv
            have HV := Lib.hid hv
            clear hv
            go_wp2_with (at_builtin; refine wpList_app rfl _ _ 33 rfl w5.heap.size 42 (.agg #[.string ⟨#[]⟩, .int .i64 0, .int .i64 0]) 3 32 Tryz.underlying33 infoR38 rfl (by decide) _ nb _ rfl (H7.out.1.1.b.alloc _) w7.heap.size 1 #[.string q, .int .i64 v, .int .i64 cl] 42 rfl (Blk.new _ _ _) rfl (by simp [Value.oneCell']) (by omega) (by decide) (by simp; omega) _ rfl ?_; intro g2 cap2 w8 hown2 hgrow2 hat2 hlt2)
            have hal : Below w7.heap.size w7 (w7.alloc (.cells #[.string q, .int .i64 v, .int .i64 cl] 42)) := (Below.refl _ w7).alloc (Nat.le_refl _) _
            have h8 := (H7.out.1.below hal).right (x := (q, v, cl)) hown2 hgrow2 hat2
            have hb8 := own_below H7.out.1.1.b (H7.out.2.alloc hs7 _) hgrow2 (Nat.le_refl _) (by simp; omega)
            have H8 := Lib.hid (And.intro h8 hb8)
            clear hown2 hgrow2 hat2 hlt2 hal h8 hb8 H7
            go_wp2_with fail
            go_roundw
            case rel => exact ⟨i + 1, nb + 1, by go_num, by omega, by rw [HST.out.2, HST.out.1, if_neg HV.out]; exact H8.out.1, H8.out.2⟩
            case measure => simp [intOf]; omega
        · obtain rfl : n = i := by omega
          have hf : ans.take n = ans := List.take_of_length_le (by have := HN.out; omega)
          rw [hf] at hTw
          clear hf
          have hwS := hTw.slvA
          have hbS := hTw.slvB
          have hFn := hTw.2.1
          have hBn := hTw.2.2
          obtain ⟨A6, k6, rfl, _, _, _⟩ := SlV_of_any hTw.1.a
          obtain ⟨A7, k7, rfl, _, _, _⟩ := SlV_of_any hTw.1.b
          have hnb : nb ≤ n := by have h1 := busyR_le (rowsR ans); omega
          have hwb := H5.out.1.trans (hb.mono H5.out.1.size)
          have hT := H5.out.2.2.1.below hb
          have hT2 := H5.out.2.2.2.1.below hb
          have hBx := H5.out.2.1.below hb H5.out.2.1.lt
          have x0 := hBx.cell 0
          have x1 := hBx.cell 1
          simp only [List.getElem?_toArray, List.getElem?_cons_succ, List.getElem?_cons_zero] at x0 x1
          have HO := Lib.hid (HOF.out wr hwb hT hT2)
          have HWB := Lib.hid (And.intro hwb (And.intro hwS hbS))
          have HFN := Lib.hid (And.intro hFn hBn)
          clear hTw hwS hbS hwb hT hT2 hBx hb H5 HOF hFn hBn
          generalize rowsR ans = F at *
          go_wp2_with fail
          refine HO.out.mono ?_
          rintro e w6 ⟨u, rfl, ho, hb6⟩
          have hg6 := ho.slv
          unfold OwnRow at ho
          rw [HFN.out.1] at ho
          obtain ⟨A8, c8, rfl, _, _, _⟩ := SlV_of_any ho
          have HB6 := Lib.hid (back38_any w6 _ F hg6 (by rw [HFN.out.1]; omega))
          have H6 := Lib.hid (And.intro (HWB.out.1.trans (hb6.mono HWB.out.1.size)) (And.intro (HWB.out.2.1.below hb6 (Nat.le_refl _)) (And.intro (HWB.out.2.2.below hb6 (Nat.le_refl _)) hg6)))
          clear ho hg6 hb6 x0 x1 HO HWB
          go_wp2_with fail
          refine HB6.out.mono ?_
          rintro e w7 ⟨u, rfl, ho, hb7⟩
          have hs7 := ho.slv
          unfold OwnR38 at ho
          rw [HFN.out.1] at ho
          obtain ⟨A9, c9, rfl, _, _, _⟩ := SlV_of_any ho
          have HS7 := Lib.hid (same38_any w7 _ _ F hs7 (H6.out.2.1.below hb7 (Nat.le_refl _)))
          have H7 := Lib.hid (And.intro (H6.out.1.trans (hb7.mono H6.out.1.size)) (And.intro (H6.out.2.2.1.below hb7 (Nat.le_refl _)) (H6.out.2.2.2.below hb7 (Nat.le_refl _))))
          clear ho hs7 hb7 HB6 H6
          go_wp2_with fail
          refine HS7.out.mono ?_
          rintro e w8 ⟨rfl, m8, hw8⟩
          have hb8 : Below w7.heap.size w7 w8 := by rw [hw8]; exact below_drewN (Below.refl _ _) m8
          have HB8 := Lib.hid (busy_any w8 _ F (H7.out.2.2.below hb8 (Nat.le_refl _)) (by rw [HFN.out.1]; omega))
          have H8 := Lib.hid (And.intro (H7.out.1.trans (hb8.mono H7.out.1.size)) (H7.out.2.1.below hb8 (Nat.le_refl _)))
          clear hw8 hb8 HS7 H7
          go_wp2_with fail
          refine HB8.out.mono ?_
          rintro e w9 ⟨u, rfl, ho, hb9⟩
          have hs9 : SlV w9 3 eCRW u (busyR F) := SlV.of_own ho eCRW_len (by decide)
          rw [HFN.out.2] at ho
          obtain ⟨A10, c10, rfl, _, _, _⟩ := SlV_of_any ho
          have HB9 := Lib.hid (back38_any w9 _ (busyR F) hs9 (by rw [HFN.out.2]; omega))
          have H9 := Lib.hid (And.intro (H8.out.1.trans (hb9.mono H8.out.1.size)) (H8.out.2.below hb9 (Nat.le_refl _)))
          clear ho hs9 hb9 HB8 H8
          go_wp2_with fail
          refine HB9.out.mono ?_
          rintro e w10 ⟨u, rfl, ho, hb10⟩
          have hs10 := ho.slv
          unfold OwnR38 at ho
          rw [HFN.out.2] at ho
          obtain ⟨A11, c11, rfl, _, _, _⟩ := SlV_of_any ho
          have HS10 := Lib.hid (same38_any w10 _ _ (busyR F) hs10 (H9.out.2.below hb10 (Nat.le_refl _)))
          have H10 := Lib.hid (H9.out.1.trans (hb10.mono H9.out.1.size))
          clear ho hs10 hb10 HB9 H9
          go_wp2_with fail
          refine HS10.out.mono ?_
          rintro e w11 ⟨rfl, m11, hw11⟩
          have hb11 : Below w10.heap.size w10 w11 := by rw [hw11]; exact below_drewN (Below.refl _ _) m11
          have H11 := Lib.hid (H10.out.trans (hb11.mono H10.out.size))
          clear hw11 hb11 HS10 H10
          go_wp2_with fail
          refine (stLives38_any w11).mono ?_
          rintro e w12 ⟨rfl, hb12⟩
          have H12 := Lib.hid (H11.out.trans (hb12.mono H11.out.size))
          clear hb12 H11
          go_wp2_with fail
          go_ret
          exact ⟨rfl, H12.out⟩
end Go.Proofs.YtlfeeiloijmagaaGreatDoor
/- The walk of StatusOf in the statement's form. -/
set_option linter.unusedVariables false
set_option linter.unusedSimpArgs false
namespace Go.Proofs.YtlfeeiloijmagaaGreatDoor
open Go Go.ChangeShapes Go.WideShapes Go.ChangeAt Go.RowKit
open Sw
set_option maxRecDepth 100000 in
theorem statusOf_walk : Walks 3 Tryz.f3 := by
  intro H enc W base args ds ps hval hA hlt hsz
  rw [Tryz.params3] at hA hval
  obtain ⟨v0, v1, d0, d1, p0, p1, rfl, rfl, rfl, h0, h1⟩ := trodAll_two hA
  obtain ⟨u1, u2, l1, l2, rfl, s1, s2, i1, i2⟩ := open_base (hval 0 24 v0 rfl rfl) h0
  obtain ⟨w1, w2, xs, ys, rfl, g1, g2, j1, j2⟩ := open_items2 (hval 1 26 v1 rfl rfl) h1
  exact statusOf_main W u1 u2 l1 l2 s1 s2 (fun m hm => (i1 m hm).2.2.2.1) (fun m hm => (i2 m hm).2.2.2.1) w1 w2 xs ys g1 g2 (fun x hx => j1 x hx) (fun x hx => j2 x hx)
end Go.Proofs.YtlfeeiloijmagaaGreatDoor
