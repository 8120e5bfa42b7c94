/- Several texts, joined for the limit of sixty files; each one opens with its own comment. -/
import Derived.Test.YtihiakkeloejlaaGreatDoorJoin32
import Derived.Test.YtihiakkeloejlaaGreatDoorJoin25
import Derived.Test.YtihiakkeloejlaaGreatDoorJoin1
import Derived.Test.YtihiakkeloejlaaGreatDoorJoin15
/- The document's example of layer 41. -/
set_option linter.unusedVariables false
set_option linter.unusedSimpArgs false
namespace Go.Proofs.YtihiakkeloejlaaGreatDoor
open Go Go.RowKit
open Sw
theorem slv_one {w : World} {g : Nat} {te : TypeId} {α : Type} {E : α → List Value} {size : Nat} (x : α) (h : Blk w g te (E x).toArray) : SlV w size E (.slice (some ⟨g, 0, none⟩) 1 1) [x] :=
  ⟨some ⟨g, 0, none⟩, 1, rfl, by simp, by unfold maxLen; omega, fun _ => ⟨g, 0, rfl, h.lt, fun i hi j hj => by
    have hi0 : i = 0 := by simpa using hi
    subst hi0
    rw [h.cell]
    simp⟩⟩
def fileX : Nd := ⟨1, 0, 2162688, ⟨#[120]⟩⟩
theorem of_lives : ofPD [((⟨#[97]⟩ : ByteArray), fileX)] [((⟨#[98]⟩ : ByteArray), fileX)] = [((4 : Int), (⟨#[98]⟩ : ByteArray), (⟨#[97]⟩ : ByteArray))] := by decide +kernel
theorem line_lives : lineC 4 ⟨#[98]⟩ ⟨#[97]⟩ = ⟨#[62, 32, 98, 9, 97]⟩ := by decide +kernel
theorem puts_livesA : putsT [] [((⟨#[97]⟩ : ByteArray), fileX)] = (0, [((⟨#[97]⟩ : ByteArray), fileX)]) := by kernel_rfl
theorem puts_livesB : putsT [] [((⟨#[98]⟩ : ByteArray), fileX)] = (0, [((⟨#[98]⟩ : ByteArray), fileX)]) := by kernel_rfl
set_option maxRecDepth 100000 in
set_option maxHeartbeats 4000000 in
theorem diff_lives (w : World) : Calls Tryz.prog 7 #[] w fun e w' => e = .returned (.bool true) ∧ Below w.heap.size w w' := by
  have hnd : NdIn fileX := by constructor <;> decide
  have hti1 := ti_of_puts (by rw [puts_livesA] : (putsT [] [((⟨#[97]⟩ : ByteArray), fileX)]).2 = [((⟨#[97]⟩ : ByteArray), fileX)])
  have hti2 := ti_of_puts (by rw [puts_livesB] : (putsT [] [((⟨#[98]⟩ : ByteArray), fileX)]).2 = [((⟨#[98]⟩ : ByteArray), fileX)])
  have h1 : ∀ (c : UInt8), ∀ e ∈ [((⟨#[c]⟩ : ByteArray), fileX)], e.1.size ≤ 90000 ∧ NdIn e.2 := fun c e he => by
    simp only [List.mem_cons, List.not_mem_nil, or_false] at he
    subst he
    exact ⟨by show 1 ≤ 90000; omega, hnd⟩
  have HT1 := Lib.hid (fun W g (h : Blk W g 56 #[.string ⟨#[97]⟩, .int .i64 1, .int .i64 0, .int .u32 2162688, .string ⟨#[120]⟩]) => treeOf_any W (.slice (some ⟨g, 0, none⟩) 1 1) [((⟨#[97]⟩ : ByteArray), fileX)] (slv_one (E := eCSN) (te := 56) ((⟨#[97]⟩ : ByteArray), fileX) h) (by simp) (h1 97) hti1)
  have HT2 := Lib.hid (fun W g (h : Blk W g 56 #[.string ⟨#[98]⟩, .int .i64 1, .int .i64 0, .int .u32 2162688, .string ⟨#[120]⟩]) => treeOf_any W (.slice (some ⟨g, 0, none⟩) 1 1) [((⟨#[98]⟩ : ByteArray), fileX)] (slv_one (E := eCSN) (te := 56) ((⟨#[98]⟩ : ByteArray), fileX) h) (by simp) (h1 98) hti2)
  have ht : ∀ (c : UInt8), ∀ e ∈ [((⟨#[c]⟩ : ByteArray), fileX)], 0 ≤ e.2.time ∧ e.2.time < 4294967296 := fun c e he => by
    simp only [List.mem_cons, List.not_mem_nil, or_false] at he
    subst he
    show 0 ≤ (2162688 : Int) ∧ (2162688 : Int) < 4294967296
    omega
  have hd : ∀ (c : UInt8), ∀ e ∈ [((⟨#[c]⟩ : ByteArray), fileX)], e.2.data.size ≤ maxLen := fun c e he => by
    simp only [List.mem_cons, List.not_mem_nil, or_false] at he
    subst he
    show 1 ≤ maxLen
    unfold maxLen; omega
  have HO := Lib.hid (fun W b1 m1 b2 m2 (k1 : TreeAt W b1 m1 [((⟨#[97]⟩ : ByteArray), fileX)]) (k2 : TreeAt W b2 m2 [((⟨#[98]⟩ : ByteArray), fileX)]) => (by
    have := diffOf_any W b1 m1 b2 m2 _ _ k1 k2 hti1 hti2 (by simp) (by simp) (ht 97) (ht 98) (hd 97) (hd 98)
    rw [of_lives] at this
    exact this : Calls Tryz.prog 10 #[.pointer (some ⟨b1, 0, none⟩), .pointer (some ⟨b2, 0, none⟩)] W fun e w' => ∃ u, e = .returned u ∧ OwnC w' W.heap.size u [((4 : Int), (⟨#[98]⟩ : ByteArray), (⟨#[97]⟩ : ByteArray))] ∧ Below W.heap.size W w'))
  have HL := Lib.hid (fun W => (by
    have := diffLine_any W 4 ⟨#[98]⟩ ⟨#[97]⟩ (by decide) (by decide)
    rw [line_lives] at this
    exact this : Calls Tryz.prog 20 #[.agg #[.int .i64 4, .string ⟨#[98]⟩, .string ⟨#[97]⟩]] W fun e w' => e = .returned (.string ⟨#[62, 32, 98, 9, 97]⟩) ∧ Below W.heap.size W w'))
  clear hnd hti1 hti2 h1 ht hd
  obtain ⟨g, hg⟩ : ∃ n, w.heap.size = n := ⟨_, rfl⟩
  obtain ⟨W1, hW1⟩ : ∃ W, (w.alloc (.cells #[.int .i64 1, .int .i64 0, .int .u32 2162688, .string ⟨#[120]⟩] 54)).alloc (.cells #[.string ⟨#[97]⟩, .int .i64 1, .int .i64 0, .int .u32 2162688, .string ⟨#[120]⟩] 56) = W := ⟨_, rfl⟩
  have hb1 : Below w.heap.size w W1 := by rw [← hW1]; exact ((Below.refl _ w).alloc (Nat.le_refl _) _).alloc (by simp) _
  have e1 : Blk W1 w.heap.size 54 #[.int .i64 1, .int .i64 0, .int .u32 2162688, .string ⟨#[120]⟩] := by rw [← hW1]; exact blk_fst _ _ _ _
  have e2 : Blk W1 (w.heap.size + 1) 56 #[.string ⟨#[97]⟩, .int .i64 1, .int .i64 0, .int .u32 2162688, .string ⟨#[120]⟩] := by rw [← hW1]; exact blk_snd _ _ _ _
  rw [hg] at e1 e2
  have HW1 := Lib.hid (And.intro hb1 (And.intro e1 e2))
  clear hb1 e1 e2
  go_enter Tryz.func7, Tryz.ntmps7
  go_wp2_with fail
  refine (HT1.out W1 _ HW1.out.2.2).mono ?_
  rintro e w1 ⟨bt, bm, rfl, hT, -, -, hb⟩
  have hN := HW1.out.2.1.below hb HW1.out.2.1.lt
  have H1 := Lib.hid (And.intro (HW1.out.1.trans (hb.mono HW1.out.1.size)) hT)
  have y0 := hN.cell 0
  have y1 := hN.cell 1
  have y2 := hN.cell 2
  have y3 := hN.cell 3
  simp only [List.getElem?_toArray, List.getElem?_cons_succ, List.getElem?_cons_zero] at y0 y1 y2 y3
  obtain ⟨W2, hW2⟩ : ∃ W, w1.alloc (.cells #[.string ⟨#[98]⟩, .int .i64 1, .int .i64 0, .int .u32 2162688, .string ⟨#[120]⟩] 56) = W := ⟨_, rfl⟩
  have hb2 : Below w1.heap.size w1 W2 := by rw [← hW2]; exact (Below.refl _ w1).alloc (Nat.le_refl _) _
  have e3 : Blk W2 w1.heap.size 56 #[.string ⟨#[98]⟩, .int .i64 1, .int .i64 0, .int .u32 2162688, .string ⟨#[120]⟩] := by rw [← hW2]; exact Blk.new _ _ _
  have H2 := Lib.hid (And.intro (H1.out.1.trans (hb2.mono H1.out.1.size)) (And.intro (H1.out.2.below hb2) e3))
  clear hb hT hN hW1 hb2 e3
  go_wp2_with fail
  refine (HT2.out W2 _ H2.out.2.2).mono ?_
  rintro e w3 ⟨bt2, bm2, rfl, hT2, -, -, hb3⟩
  have H3 := Lib.hid (And.intro (H2.out.1.trans (hb3.mono H2.out.1.size)) (And.intro (H2.out.2.1.below hb3) hT2))
  clear hT2 hb3 hW2 y0 y1 y2 y3
  go_wp2_with fail
  refine (HO.out w3 bt bm bt2 bm2 H3.out.2.1 H3.out.2.2).mono ?_
  rintro e w4 ⟨u, rfl, ho, hb4⟩
  obtain ⟨A, c, rfl, _, _, hL⟩ := (SlV.of_own ho eCC_len (by decide) : SlV w4 3 eCC u [((4 : Int), (⟨#[98]⟩ : ByteArray), (⟨#[97]⟩ : ByteArray))])
  obtain ⟨gm, om, rfl, hgl, hcs⟩ := hL (by simp)
  have k0 := hcs 0 (by simp) 0 (by omega)
  have k1 := hcs 0 (by simp) 1 (by omega)
  have k2 := hcs 0 (by simp) 2 (by omega)
  simp only [eCC, List.getElem_cons_zero, List.getElem?_cons_succ, List.getElem?_cons_zero, Nat.zero_mul, Nat.add_zero] at k0 k1 k2
  have H4 := Lib.hid (H3.out.1.trans (hb4.mono H3.out.1.size))
  simp only [List.length_cons, List.length_nil, Nat.zero_add]
  clear ho hb4 hL hcs
  go_wp2_with fail
  refine (HL.out w4).mono ?_
  rintro e w5 ⟨rfl, hb5⟩
  have H5 := Lib.hid (H4.out.trans (hb5.mono H4.out.size))
  clear hb5 k0 k1 k2
  go_wp2_with fail
  go_ret
  exact ⟨rfl, H5.out⟩
end Go.Proofs.YtihiakkeloejlaaGreatDoor
/- DiffTurns: of one and itself there is nothing; the other way round what was added was removed. -/
set_option linter.unusedVariables false
set_option linter.unusedSimpArgs false
namespace Sw
theorem eachP_self (xs : List NE) : eachP xs xs = [] := by
  unfold eachP
  rw [List.filterMap_eq_nil_iff]
  intro p _
  unfold eachE
  rw [if_pos (by unfold kindP; rw [if_pos rfl])]
theorem ofPD_self (xs : List NE) : ofPD xs xs = [] := by
  unfold ofPD
  rw [eachP_self]
  rfl
theorem ofPD_kinds (xs ys : List NE) : ∀ f ∈ ofPD xs ys, f.1 = 1 ∨ f.1 = 2 ∨ f.1 = 3 ∨ f.1 = 4 ∨ f.1 = 5 := fun f hf => by
  obtain ⟨c, hc, he⟩ := List.mem_filterMap.1 hf
  have h4 := eachP_four xs ys c hc
  unfold ofE at he
  split at he
  · split at he
    · cases he; exact .inr (.inr (.inr (.inl rfl)))
    · cases he; exact .inl rfl
  · split at he
    · split at he
      · cases he
      · cases he; exact .inr (.inl rfl)
    · cases he
      rcases h4 with h | h | h | h
      · exact .inl h
      · exact .inr (.inl h)
      · exact .inr (.inr (.inl h))
      · exact .inr (.inr (.inr (.inr h)))
end Sw
namespace Go.Proofs.YtihiakkeloejlaaGreatDoor
open Go Go.RowKit
open Sw
theorem ofPD_len (xs ys : List NE) : (ofPD xs ys).length ≤ xs.length + ys.length := by
  unfold ofPD
  exact Nat.le_trans (List.length_filterMap_le _ _) (each_len xs ys)
set_option maxRecDepth 100000 in
set_option maxHeartbeats 8000000 in
theorem diffTurns_main (w : World) (v1 v2 : Value) (xs ys : List NE) (g1 : SlV w 5 eCSN v1 xs) (g2 : SlV w 5 eCSN v2 ys) (hx : ∀ x ∈ xs, x.1.size ≤ maxLen ∧ NdIn x.2) (hy : ∀ x ∈ ys, x.1.size ≤ maxLen ∧ NdIn x.2) :
    Calls Tryz.prog 3 #[.agg #[v1, v2]] w fun e w' => e = .returned (.bool true) ∧ Below w.heap.size w w' := by
  obtain ⟨W, hW⟩ : ∃ W, w.alloc (.cells #[v1, v2] 23) = W := ⟨_, rfl⟩
  have hb0 : Below w.heap.size w W := by rw [← hW]; exact (Below.refl _ w).alloc (Nat.le_refl _) _
  have hB0 : Blk W w.heap.size 23 #[v1, v2] := by rw [← hW]; exact Blk.new _ _ _
  have HL := Lib.hid (light41_any W v1 v2 xs ys (g1.below hb0 (Nat.le_refl _)) (g2.below hb0 (Nat.le_refl _)) hx hy)
  have HT1 := Lib.hid (fun W' (hb : Below w.heap.size w W') (h1 : xs.length ≤ 30) (h2 : ∀ e ∈ xs, SmallE e) (h3 : TI xs) => treeOf_any W' v1 xs (g1.below hb (Nat.le_refl _)) (by omega) (fun x hx' => ⟨by have := (h2 x hx').1; omega, (hx x hx').2⟩) h3)
  have HT2 := Lib.hid (fun W' (hb : Below w.heap.size w W') (h1 : ys.length ≤ 30) (h2 : ∀ e ∈ ys, SmallE e) (h3 : TI ys) => treeOf_any W' v2 ys (g2.below hb (Nat.le_refl _)) (by omega) (fun x hx' => ⟨by have := (h2 x hx').1; omega, (hy x hx').2⟩) h3)
  have x0 := hB0.cell 0
  have x1 := hB0.cell 1
  simp only [List.getElem?_toArray, List.getElem?_cons_succ, List.getElem?_cons_zero] at x0 x1
  have HB := Lib.hid (And.intro hb0 hB0)
  have HW := Lib.hid hW
  have HI := Lib.hid (And.intro hx hy)
  obtain ⟨A1, c1, rfl, _, _, _⟩ := g1
  obtain ⟨A2, c2, rfl, _, _, _⟩ := g2
  obtain ⟨n1, hn1⟩ : ∃ n, xs.length = n := ⟨_, rfl⟩
  obtain ⟨n2, hn2⟩ : ∃ n, ys.length = n := ⟨_, rfl⟩
  have HN := Lib.hid (And.intro hn1 hn2)
  rw [hn1, hn2] at HW HB HL
  rw [hn1] at x0 HT1
  rw [hn2] at x1 HT2
  rw [hn1, hn2]
  clear hb0 hB0 hW hx hy hn1 hn2
  go_enter Tryz.func3, Tryz.ntmps3
  go_upto_region 1 with fail
  rw [HW.out]
  go_wp2_with fail
  refine HL.out.mono ?_
  rintro e w1 ⟨⟨R, rfl, hR⟩, hb1⟩
  have hB1 := HB.out.2.below hb1 HB.out.2.lt
  have H1 := Lib.hid (And.intro (HB.out.1.trans (hb1.mono HB.out.1.size)) (And.intro hB1 hR))
  have y0 := hB1.cell 0
  simp only [List.getElem?_toArray, List.getElem?_cons_succ, List.getElem?_cons_zero] at y0
  clear hb1 hB1 hR HL x0 x1
  cases R with
  | false =>
    go_wp2_with fail
    refine (diff_lives _).mono ?_
    rintro e w2 ⟨rfl, hb2⟩
    have H2 := Lib.hid (H1.out.1.trans (hb2.mono H1.out.1.size)); clear hb2
    go_wp2_with fail
    go_ret
    exact ⟨rfl, H2.out⟩
  | true =>
    obtain ⟨⟨hxl, hxs, hxp⟩, hyl, hys, hyp⟩ := H1.out.2.2 (by first | rfl | trivial)
    have HTX := Lib.hid (ti_of_puts (by rw [hxp] : (putsT [] xs).2 = xs))
    have HTY := Lib.hid (ti_of_puts (by rw [hyp] : (putsT [] ys).2 = ys))
    have HSX := Lib.hid (And.intro hxl hxs)
    have HSY := Lib.hid (And.intro hyl hys)
    have hzz : ∀ zs, zs = xs ∨ zs = ys → TI zs ∧ zs.length ≤ 1000 ∧ (∀ e ∈ zs, 0 ≤ e.2.time ∧ e.2.time < 4294967296) ∧ ∀ e ∈ zs, e.2.data.size ≤ maxLen := fun zs hz => by
      rcases hz with rfl | rfl
      · exact ⟨HTX.out, by have := HSX.out.1; omega, fun e he => ⟨(HI.out.1 e he).2.t0, (HI.out.1 e he).2.t1⟩, fun e he => by have := (HSX.out.2 e he).2; unfold maxLen; omega⟩
      · exact ⟨HTY.out, by have := HSY.out.1; omega, fun e he => ⟨(HI.out.2 e he).2.t0, (HI.out.2 e he).2.t1⟩, fun e he => by have := (HSY.out.2 e he).2; unfold maxLen; omega⟩
    have HO := Lib.hid (fun V b1 m1 b2 m2 zs ts (hz : zs = xs ∨ zs = ys) (ht : ts = xs ∨ ts = ys) (k1 : TreeAt V b1 m1 zs) (k2 : TreeAt V b2 m2 ts) => diffOf_any V b1 m1 b2 m2 zs ts k1 k2 (hzz zs hz).1 (hzz ts ht).1 (hzz zs hz).2.1 (hzz ts ht).2.1 (hzz zs hz).2.2.1 (hzz ts ht).2.2.1 (hzz zs hz).2.2.2 (hzz ts ht).2.2.2)
    have HC := Lib.hid (fun V u zs ts (hz : zs = xs ∨ zs = ys) (ht : ts = xs ∨ ts = ys) (h : SlV V 3 eCC u (ofPD zs ts)) => diffCount_any V u (ofPD zs ts) h (by have := ofPD_len zs ts; have := (hzz zs hz).2.1; have := (hzz ts ht).2.1; omega) (ofPD_kinds zs ts))
    clear hzz hxl hxs hxp hyl hys hyp
    have hcnt := diff_turns HTX.out HTY.out
    obtain ⟨a0, ha0⟩ : ∃ n, cntD 0 (ofPD xs ys) = n := ⟨_, rfl⟩
    obtain ⟨a1, ha1⟩ : ∃ n, cntD 1 (ofPD xs ys) = n := ⟨_, rfl⟩
    obtain ⟨a2, ha2⟩ : ∃ n, cntD 2 (ofPD xs ys) = n := ⟨_, rfl⟩
    obtain ⟨a3, ha3⟩ : ∃ n, cntD 3 (ofPD xs ys) = n := ⟨_, rfl⟩
    obtain ⟨a4, ha4⟩ : ∃ n, cntD 4 (ofPD xs ys) = n := ⟨_, rfl⟩
    obtain ⟨a5, ha5⟩ : ∃ n, cntD 5 (ofPD xs ys) = n := ⟨_, rfl⟩
    have HCX := Lib.hid (fun V u (h : SlV V 3 eCC u (ofPD xs ys)) => (by
      have := HC.out V u xs ys (.inl rfl) (.inr rfl) h
      rw [ha0, ha1, ha2, ha3, ha4, ha5] at this
      exact this : Calls Tryz.prog 9 #[u] V fun e w' => e = .returned (.agg #[.int .i64 a0, .int .i64 a1, .int .i64 a2, .int .i64 a3, .int .i64 a4, .int .i64 a5]) ∧ Below V.heap.size V w'))
    obtain ⟨b0, hb0⟩ : ∃ n, cntD 0 (ofPD ys xs) = n := ⟨_, rfl⟩
    have HCY := Lib.hid (fun V u (h : SlV V 3 eCC u (ofPD ys xs)) => (by
      have := HC.out V u ys xs (.inr rfl) (.inl rfl) h
      rw [hb0, show cntD 1 (ofPD ys xs) = a2 by rw [← ha2]; unfold cntD; omega, show cntD 2 (ofPD ys xs) = a1 by rw [← ha1]; unfold cntD; omega, show cntD 3 (ofPD ys xs) = a3 by rw [← ha3]; unfold cntD; omega, show cntD 4 (ofPD ys xs) = a4 by rw [← ha4]; unfold cntD; omega, show cntD 5 (ofPD ys xs) = a5 by rw [← ha5]; unfold cntD; omega] at this
      exact this : Calls Tryz.prog 9 #[u] V fun e w' => e = .returned (.agg #[.int .i64 b0, .int .i64 a2, .int .i64 a1, .int .i64 a3, .int .i64 a4, .int .i64 a5]) ∧ Below V.heap.size V w'))
    clear hcnt ha0 ha1 ha2 ha3 ha4 ha5 hb0
    go_wp2_with fail
    refine (HT1.out w1 H1.out.1 (by have := HSX.out.1; have := HN.out.1; omega) HSX.out.2 HTX.out).mono ?_
    rintro e w2 ⟨bt, bm, rfl, hT, -, -, hb2⟩
    have hB2 := H1.out.2.1.below hb2 H1.out.2.1.lt
    have H2 := Lib.hid (And.intro (H1.out.1.trans (hb2.mono H1.out.1.size)) hT)
    have y1 := hB2.cell 1
    simp only [List.getElem?_toArray, List.getElem?_cons_succ, List.getElem?_cons_zero] at y1
    clear hb2 hT hB2 HT1 y0
    go_wp2_with fail
    refine (HT2.out w2 H2.out.1 (by have := HSY.out.1; have := HN.out.2; omega) HSY.out.2 HTY.out).mono ?_
    rintro e w3 ⟨bt2, bm2, rfl, hT2, -, -, hb3⟩
    have H3 := Lib.hid (And.intro (H2.out.1.trans (hb3.mono H2.out.1.size)) (And.intro (H2.out.2.below hb3) hT2))
    clear hb3 hT2 HT2 y1
    go_wp2_with fail
    refine (HO.out w3 bt bm bt2 bm2 xs ys (.inl rfl) (.inr rfl) H3.out.2.1 H3.out.2.2).mono ?_
    rintro e w4 ⟨u, rfl, ho, hb4⟩
    have hs4 : SlV w4 3 eCC u (ofPD xs ys) := SlV.of_own ho eCC_len (by decide)
    have H4 := Lib.hid (And.intro (H3.out.1.trans (hb4.mono H3.out.1.size)) (And.intro (H3.out.2.1.below hb4) (H3.out.2.2.below hb4)))
    have HCX4 := Lib.hid (HCX.out w4 u hs4)
    clear ho hb4 hs4 HCX
    go_wp2_with fail
    refine HCX4.out.mono ?_
    rintro e w5 ⟨rfl, hb5⟩
    have H5 := Lib.hid (And.intro (H4.out.1.trans (hb5.mono H4.out.1.size)) (And.intro (H4.out.2.1.below hb5) (H4.out.2.2.below hb5)))
    clear hb5 HCX4
    go_wp2_with fail
    refine (HO.out w5 bt2 bm2 bt bm ys xs (.inr rfl) (.inl rfl) H5.out.2.2 H5.out.2.1).mono ?_
    rintro e w6 ⟨u, rfl, ho, hb6⟩
    have hs6 : SlV w6 3 eCC u (ofPD ys xs) := SlV.of_own ho eCC_len (by decide)
    have H6 := Lib.hid (And.intro (H5.out.1.trans (hb6.mono H5.out.1.size)) (And.intro (H5.out.2.1.below hb6) (H5.out.2.2.below hb6)))
    have HCY6 := Lib.hid (HCY.out w6 u hs6)
    clear ho hb6 hs6 HCY
    go_wp2_with fail
    refine HCY6.out.mono ?_
    rintro e w7 ⟨rfl, hb7⟩
    have H7 := Lib.hid (And.intro (H6.out.1.trans (hb7.mono H6.out.1.size)) (H6.out.2.1.below hb7))
    clear hb7 HCY6
    obtain ⟨W8, hW8⟩ : ∃ W, (w7.alloc (.cells #[.int .i64 a0, .int .i64 a1, .int .i64 a2, .int .i64 a3, .int .i64 a4, .int .i64 a5] 30)).alloc (.cells #[.int .i64 b0, .int .i64 a2, .int .i64 a1, .int .i64 a3, .int .i64 a4, .int .i64 a5] 30) = W := ⟨_, rfl⟩
    have hb8 : Below w7.heap.size w7 W8 := by rw [← hW8]; exact ((Below.refl _ w7).alloc (Nat.le_refl _) _).alloc (by simp) _
    have e1 : Blk W8 w7.heap.size 30 #[.int .i64 a0, .int .i64 a1, .int .i64 a2, .int .i64 a3, .int .i64 a4, .int .i64 a5] := by rw [← hW8]; exact blk_fst _ _ _ _
    have e2 : Blk W8 (w7.heap.size + 1) 30 #[.int .i64 b0, .int .i64 a2, .int .i64 a1, .int .i64 a3, .int .i64 a4, .int .i64 a5] := by rw [← hW8]; exact blk_snd _ _ _ _
    have H8 := Lib.hid (And.intro (H7.out.1.trans (hb8.mono H7.out.1.size)) (And.intro (H7.out.2.below hb8) (And.intro e1 e2)))
    clear hb8 e1 e2
    go_wp2_with fail
    refine (HO.out W8 bt bm bt bm xs xs (.inl rfl) (.inl rfl) H8.out.2.1 H8.out.2.1).mono ?_
    rintro e w9 ⟨u, rfl, ho, hb9⟩
    rw [ofPD_self] at ho
    obtain ⟨A9, c9, rfl, _, _, _⟩ := (SlV.of_own ho eCC_len (by decide) : SlV w9 3 eCC u [])
    have k1 := H8.out.2.2.1.below hb9 H8.out.2.2.1.lt
    have k2 := H8.out.2.2.2.below hb9 H8.out.2.2.2.lt
    have p1 := k1.cell 1
    have p2 := k1.cell 2
    have p3 := k1.cell 3
    have p4 := k1.cell 4
    have p5 := k1.cell 5
    have q1 := k2.cell 1
    have q2 := k2.cell 2
    have q3 := k2.cell 3
    have q4 := k2.cell 4
    have q5 := k2.cell 5
    simp only [List.getElem?_toArray, List.getElem?_cons_succ, List.getElem?_cons_zero] at p1 p2 p3 p4 p5 q1 q2 q3 q4 q5
    have H9 := Lib.hid (H8.out.1.trans (hb9.mono H8.out.1.size))
    clear ho hb9 k1 k2 hW8
    simp only [List.length_nil]
    go_wp2_with fail
    refine (diff_lives _).mono ?_
    rintro e w10 ⟨rfl, hb10⟩
    have H10 := Lib.hid (H9.out.trans (hb10.mono H9.out.size)); clear hb10
    go_wp2_with fail
    go_ret
    exact ⟨rfl, H10.out⟩
end Go.Proofs.YtihiakkeloejlaaGreatDoor
/- The walk of DiffTurns in the statement's form. -/
set_option linter.unusedVariables false
set_option linter.unusedSimpArgs false
namespace Go.Proofs.YtihiakkeloejlaaGreatDoor
open Go Go.ChangeShapes Go.WideShapes Go.ChangeAt Go.RowKit
open Sw
set_option maxRecDepth 100000 in
theorem diffTurns_walk : Walks 3 Tryz.f3 := by
  intro H enc W base args ds ps hval hA hlt hsz
  rw [Tryz.params3] at hA hval
  obtain ⟨v0, d0, rfl, rfl, h0⟩ := trodAll_one hA
  obtain ⟨w1, w2, xs, ys, rfl, g1, g2, j1, j2⟩ := open_items2D (hval 0 23 v0 rfl rfl) h0
  exact diffTurns_main W w1 w2 xs ys g1 g2 (fun x hx => j1 x hx) (fun x hx => j2 x hx)
end Go.Proofs.YtihiakkeloejlaaGreatDoor
