/- Several texts, joined for the limit of sixty files; each one opens with its own comment. -/
import Derived.Test.YtlogdionhgabdaaDoorJoin29
import Derived.Test.YtlogdionhgabdaaDoorJoin30
/- stat.Top: the iterator over what came most. -/
set_option linter.unusedVariables false
set_option linter.unusedSimpArgs false
namespace Go.Proofs.YtlogdionhgabdaaDoor
open Go Go.RowKit Go.Shelf
open Sw
attribute [local go_sem] Oper.semAt_some
abbrev cmpT (x y : Int × Int) : Int := ordI y.2 x.2
theorem infoPI : (Tryd.prog.info? 61).map (fun i => (i.zero, i.size, i.bytes)) = some (some (.agg #[.int .i64 0, .int .i64 0]), 2, 16) := by kernel_rfl
set_option maxRecDepth 100000 in
theorem statTop_any (w : World) (tb : Nat) (n : Int) :
    Calls Tryd.prog 20 #[.pointer (some ⟨tb, 0, none⟩), .int .i64 n] w fun e w' => ∃ b1 b2, e = .returned (.func (.func 27) #[] #[.pointer (some ⟨b1, 0, none⟩), .pointer (some ⟨b2, 0, none⟩)]) ∧ Blk w' b1 25 #[.pointer (some ⟨tb, 0, none⟩)] ∧ Blk w' b2 3 #[.int .i64 n] ∧ w.heap.size ≤ b1 ∧ w.heap.size ≤ b2 ∧ Below w.heap.size w w' := by
  have h1 := blk_fst w #[.pointer (some ⟨tb, 0, none⟩)] 25 (.cells #[.int .i64 n] 3)
  have h2 := blk_snd w (.cells #[.pointer (some ⟨tb, 0, none⟩)] 25) #[.int .i64 n] 3
  have hB : Below w.heap.size w ((w.alloc (.cells #[.pointer (some ⟨tb, 0, none⟩)] 25)).alloc (.cells #[.int .i64 n] 3)) := ((Below.refl _ w).alloc (Nat.le_refl _) _).alloc (by simp) _
  have HF := Lib.hid (And.intro h1 (And.intro h2 hB)); clear h1 h2 hB
  go_enter Tryd.func20, Tryd.ntmps20
  go_wp2_with fail
  go_ret
  exact ⟨_, _, rfl, HF.out.1, HF.out.2.1, Nat.le_refl _, Nat.le_succ _, HF.out.2.2⟩
/-- behind some words of the tally: the row in the box holds them -/
def TpI (T B gb : Nat) (v : Value) (xs : List (Int × Int)) (pre : List (Int × Int)) (W : World) : Prop :=
  gb < W.heap.size ∧ (∃ o, Blk W T 59 #[o] ∧ W.ownsRow B 61 2 o pre.length (pre.flatMap eCPI)) ∧ Blk W gb 52 #[v] ∧ Lies W 56 2 eCII v xs
theorem TpI.own (T B gb : Nat) (v : Value) (xs : List (Int × Int)) : Own (TpI T B gb v xs) := fun _ A C row hs hg hr => ⟨Nat.lt_of_lt_of_le hs.1 hg.size, by obtain ⟨o, h1, h2⟩ := hs.2.1; exact ⟨o, blk_ownF h1 hg hr, own_ownF h2 hg hr⟩, blk_ownF hs.2.2.1 hg hr, hs.2.2.2.ownF hg hr⟩
theorem zip_rise {α : Type} (l : List α) : l.zipIdx.Pairwise fun p q => p.2 < q.2 := by
  rw [List.pairwise_iff_getElem]
  intro i j hi hj hij
  simp
  omega
theorem rowTy {w w' : World} {base n : Nat} {v : Value} {l : List eDPI} (h : RowDPI w base v n l) (hk : KeepTy 61 w w') : RowDPI w' base v n l := by
  refine ⟨h.1, h.2.1, ?_⟩
  rcases h.2.2 with ⟨h1, h2⟩ | ⟨g, cap, cur, rfl, hb, hh, rest⟩
  · exact .inl ⟨h1, h2⟩
  · exact .inr ⟨g, cap, cur, rfl, hb, hk.row g cur hh, rest⟩
set_option maxRecDepth 100000 in
set_option maxHeartbeats 8000000 in
theorem top1_tells (n : Nat) (hn : 5 ≤ n) (b1 b2 tb bm : Nat) (xs : List (Int × Int)) (k : Int) (w : World) (hb1 : Blk w b1 25 #[.pointer (some ⟨tb, 0, none⟩)]) (hb2 : Blk w b2 3 #[.int .i64 k]) (hT : Tly w tb bm xs) (hl : xs.length ≤ 1000)
    (M : List ((Int × Int) × Nat)) (hM : M.Perm xs.zipIdx) (hU : UpS cmpT M) :
    SeqNest (fun _ => False) Fence.wide n Tryd.prog 27 #[.pointer (some ⟨b1, 0, none⟩), .pointer (some ⟨b2, 0, none⟩)] (fun x : Int × Int => #[Value.int .i64 x.1, Value.int .i64 x.2]) (KeepTy 61)
      (fun ys => ys = (M.map Prod.fst).take (max 0 (min k M.length)).toNat) (fun pre => pre <+: (M.map Prod.fst).take (max 0 (min k M.length)).toNat) (fun pre => pre <+: (M.map Prod.fst).take (max 0 (min k M.length)).toNat) w := fun l J Jx W hW hJ hJx hY hJ0 => by
  obtain ⟨R, hR⟩ : ∃ R, (M.map Prod.fst).take (max 0 (min k M.length)).toNat = R := ⟨_, rfl⟩
  simp only [hR] at hY ⊢
  have HRR := Lib.hid hR; clear hR
  have b1' := hb1.below hW hb1.lt
  have b2' := hb2.below hW hb2.lt
  have T' := hT.below hW
  have HJ := Lib.hid (And.intro hJ hJ0); clear hJ hJ0
  have HB2 := Lib.hid b2'
  have HY := Lib.hid hY; clear hY
  have HJX := Lib.hid hJx; clear hJx
  clear hb1 hb2 hT hW
  have b0 := Blk.new W 59 #[.slice none 0 0]
  have hB : Below W.heap.size W (W.alloc (.cells #[.slice none 0 0] 59)) := (Below.refl _ W).alloc (Nat.le_refl _) _
  have p1 := b1'.below hB b1'.lt
  have p2 := b2'.below hB b2'.lt
  have H0 := Lib.hid (And.intro b0 (And.intro hB (And.intro (T'.below hB) (And.intro p1 p2))))
  have c1 := p1.cell 0
  simp at c1
  clear b0 hB T' b1' b2' p1 p2
  refine callsIn_of_wp_marks Tryd.func27 rfl trivial ?_ rfl
  simp only [Tryd.ntmps27, List.size_toArray, List.length_cons, List.length_nil, Nat.reduceAdd, Nat.reduceSub, Array.replicate_succ, Array.replicate_zero, List.push_toArray, List.append_toArray, List.nil_append, List.cons_append]
  gi_wp2
  obtain ⟨w1, hw1⟩ : ∃ w1, W.alloc (.cells #[.slice none 0 0] 59) = w1 := ⟨_, rfl⟩
  rw [hw1] at H0 c1
  rw [hw1]
  clear hw1
  refine ⟨trivial, fun _ => by omega, (callsIn_wide.2 (statAll_any w1 tb bm xs H0.out.2.2.1)).mono ?_⟩
  rintro e w2 ⟨gb, v, rfl, hgb, hL, hge, hvb, hbw2⟩
  have B0 := H0.out.1.below hbw2 H0.out.1.lt
  have hTgb : W.heap.size ≠ gb := by have := H0.out.1.lt; omega
  have HNE := Lib.hid hTgb; clear hTgb
  have hBw := H0.out.2.1.trans (hbw2.mono H0.out.2.1.size)
  have hz2 : W.heap.size < w2.heap.size := B0.lt
  clear hbw2 hge c1
  gi_wp2
  obtain ⟨T, hTe⟩ : ∃ T, T = W.heap.size := ⟨_, rfl⟩
  rw [← hTe] at B0 hBw hz2 HNE ⊢
  have HTE := Lib.hid hTe; clear hTe H0
  have hgl := hgb.lt
  refine wpIn_rangeFunc_nest (Mine := fun _ => False) (fun _ h => h.elim) rfl (by omega) (gf := 50) (lb := #[.pointer (some ⟨gb, 0, none⟩)]) rfl trivial (enters_of Tryd.func50 (by kernel_rfl) rfl)
    (SeqTells.nest (toldII_tells (n - 1) (by omega) gb v xs w2 hgb hL (by omega))) KeepIt.trans (fun W l o o' h1 h2 => keepIt_b hgl hvb W l _ _ h1 h2 rfl rfl) (Below.refl _ _) (fun _ => rfl)
    (fun pre W' => TpI T (w2.heap.size + 1) gb v xs pre W' ∧ Below T W W')
    (fun c pre W => False)
    (OwnM.of_none (OwnFrom.and (Own.from (TpI.own T (w2.heap.size + 1) gb v xs) _) (ownFrom_below (by have := HTE.out; omega) (by omega))))
    (fun c => OwnM.of_none (fun _ _ _ _ hs _ _ => hs.elim))
    ⟨⟨hgl, ⟨_, B0, World.ownsRow_nil _ _ _ _⟩, hgb, hL⟩, hBw⟩
    (fun x => { tmps := #[.func (.yield l) #[] #[], .pointer (some ⟨b1, 0, none⟩), .pointer (some ⟨b2, 0, none⟩), undef, .pointer (some ⟨T, 0, none⟩), .int .i64 x.1, .int .i64 x.2, undef, undef, .pointer (some ⟨tb, 0, none⟩), .func (.func 50) #[] #[.pointer (some ⟨gb, 0, none⟩)], .int .i64 x.1, .int .i64 x.2, undef, undef, undef, undef, undef, undef, undef, undef, undef, undef, undef, undef, undef, undef, undef, undef, undef, undef, undef, undef, undef, undef, undef, undef, undef, undef, undef, undef], defers := [] }) ?assign ?body ?done ?stop
  case assign =>
    rintro l x W K hK
    gi_wp2
    exact hK
  case body =>
    rintro l2 pre x W3 ⟨⟨hgl2, ⟨o, bT, ho⟩, hg, hL3⟩, hB⟩ hTl hD2
    have hx0 : 0 < xs.length := by obtain ⟨r, hr⟩ := hTl; rw [← hr]; simp; omega
    have hpl : pre.length + 1 ≤ 1000 := by obtain ⟨r, hr⟩ := hTl; have := congrArg List.length hr; simp at this; omega
    have m1 := bT.cell 0
    have f1 := bT.frozen 0
    simp at m1
    obtain ⟨A3, c3, rfl, _, _, _⟩ := SlV_of_any ho
    have hTW := Nat.le_of_lt bT.lt
    have HH := Lib.hid (And.intro bT (And.intro ho (And.intro hg (And.intro hL3 hB)))); clear bT ho hg hL3 hB hTl
    gi_wp2_with (gi_at_builtin; refine wpListIn_app rfl _ _ 59 rfl (w2.heap.size + 1) 61 (.agg #[.int .i64 0, .int .i64 0]) 2 16 Tryd.underlying59 infoPI rfl (by decide) _ pre.length _ rfl (HH.out.2.1.alloc _) W3.heap.size 1 #[.int .i64 x.1, .int .i64 x.2] 61 rfl (Blk.new _ _ _) rfl (by simp [Value.oneCell']) (by omega) (by decide) (by simp; omega) _ rfl ?_; intro g cap w5 hown1 hgrow1 hat hlt1; have hb5 := app_pre HH.out.1 HH.out.2.1 ((Below.refl _ _).alloc (Nat.le_refl _) _) hgrow1 (by decide); have c5 := hb5.cell 0; have f5 := hb5.frozen 0; simp at c5)
    have hA := app_body HH.out.1 (own_wide HH.out.2.1 (by omega : T ≤ _)) ((Below.refl _ _).alloc (Nat.le_refl _) _) hgrow1 (own_wide hown1 (by omega : T ≤ _)) (by omega) (Nat.le_refl _) (by decide)
    have hK := hA.keepIt HH.out.2.2.1 HH.out.2.2.2.1 hx0 (by decide) HNE.out.symm (by decide) (by decide)
    refine ⟨hA.keeps, hK, ⟨Nat.lt_of_lt_of_le hgl2 hA.below.size, ⟨_, hA.box, ?_⟩, hA.far _ _ _ HH.out.2.2.1 (by decide) HNE.out.symm, HH.out.2.2.2.1.kept (fun g cur h _ => hK.row g h)⟩, HH.out.2.2.2.2.trans hA.below⟩
    have := hown1.kept (grown_put (grown_refl w5 (some T)) 0 (.slice (some ⟨g, 0, none⟩) (pre.length + 1) cap)) (.inr (own_ne_blk hown1 hb5 (by decide)))
    simpa [eCPI] using this
  case done =>
    rintro _ zs W3 rfl hzs ⟨⟨hgl2, ⟨o, bT, ho⟩, hg, hL3⟩, hB⟩ hK
    have hz : zs = xs := hzs
    subst hz
    have m1 := bT.cell 0
    simp at m1
    obtain ⟨A3, c3, rfl, hc3, -, -⟩ := SlV_of_any ho
    have hDl : w2.heap.size < W3.heap.size := (Array.getElem?_eq_some_iff.1 hK).1
    have hrow : RowDPI W3 (w2.heap.size + 1) (.slice A3 zs.length c3) zs.length zs.zipIdx := ⟨by simp, by rw [List.zipIdx_map_fst]; exact ho⟩
    have HS := Lib.hid (sortStablePI_any cmpT statCmp_law statCmp_any W3 (w2.heap.size + 1) A3 c3 zs.length zs.zipIdx (by omega) (zip_rise zs) (by omega) hrow)
    have HC3 := Lib.hid (And.intro bT (And.intro hB hK))
    have HC0 := Lib.hid hc3
    clear hrow hg hL3 hgl2 ho hB bT hc3 hzs
    gi_wp2
    refine ⟨trivial, fun _ => by omega, (callsIn_wide.2 HS.out).mono ?_⟩
    rintro e w4 ⟨rfl, M', hM', hU', hrow', hb4⟩
    obtain rfl : M' = M := UpS.one statCmp_law hU' hU (hM'.trans hM.symm)
    have bT4 := HC3.out.1.below hb4 (by omega)
    have m2 := bT4.cell 0
    simp at m2
    have hbW4 : Below T W w4 := HC3.out.2.1.trans (hb4.mono (by omega))
    have p2 := (HB2.out.below hbW4 (by rw [HTE.out]; exact HB2.out.lt)).cell 0
    simp at p2
    have hK4 : w4.heap[w2.heap.size]? = some (Obj.deferred (some [])) := (hb4.block w2.heap.size (by omega)).trans HC3.out.2.2
    have hJ4 : J [] w4 := HJ.out.1 _ W w4 none HJ.out.2 ⟨hbW4.os, hbW4.tape, hbW4.output, hbW4.size, fun q hq _ => hbW4.block q (by rw [HTE.out]; exact hq)⟩ (fun r h => by cases h)
    have hml : M'.length = zs.length := hrow'.1
    obtain ⟨q, hq⟩ : ∃ q, (max 0 (min k (M'.length : Int))).toNat = q := ⟨_, rfl⟩
    have hRR := HRR.out
    rw [hq] at hRR
    subst hRR
    have hqi : max 0 (min k (zs.length : Int)) = ((q : Nat) : Int) := by omega
    have hqz : q ≤ zs.length := by omega
    have hqc : (q : Int) ≤ c3 := by have := HC0.out; omega
    have hq0 : (0 : Int) ≤ q := by omega
    have HR := Lib.hid (And.intro hrow' (And.intro hJ4 (And.intro hK4 hml)))
    have hDl4 : w2.heap.size < w4.heap.size := (Array.getElem?_eq_some_iff.1 hK4).1
    clear hrow' hJ4 hK4 hml hq hbW4 bT4 hb4 hM' hU' hU hM HS HC3 HB2 HC0
    gi_wp2
    gi_loopw [29] (fun iv wr => ∃ j : Nat, iv = .int .i64 j ∧ j ≤ q ∧ J (((M'.map Prod.fst).take q).take j) wr ∧ KeepTy 61 w4 wr) (fun iv _ => q - (intOf iv).toNat)
    case atStart => exact ⟨0, rfl, Nat.zero_le _, HR.out.2.1, ⟨Nat.le_refl _, fun _ _ h => h, fun _ _ h => h⟩⟩
    case round =>
      obtain ⟨j, rfl, hj, hJs, hKp⟩ := hrel
      by_cases hlt : j < q
      · have hrow := rowTy HR.out.1 hKp
        obtain ⟨g, rfl, hbg, cur, hB4, hgs⟩ := hrow.form (by omega)
        have hjm : j < M'.length := by have := HR.out.2.2.2; omega
        obtain ⟨x, hx⟩ : ∃ x, M'[j]? = some x := ⟨_, List.getElem?_eq_getElem hjm⟩
        have q0 : wr.cell? ⟨g, j * 2, none⟩ = _ := hrow.cell j x hx 0 (by omega)
        have q1 : wr.cell? ⟨g, j * 2 + 1, none⟩ = _ := hrow.cell j x hx 1 (by omega)
        simp only [eCPI, List.getElem?_cons_succ, List.getElem?_cons_zero] at q0 q1
        have hba := (Below.refl wr.heap.size wr).alloc (Nat.le_refl _) (.cells #[.int .i64 x.1.1, .int .i64 x.1.2] 61)
        have hJ1 := HJ.out.1 _ wr (wr.alloc (.cells #[.int .i64 x.1.1, .int .i64 x.1.2] 61)) none hJs (grown_alloc (grown_refl wr none) _) (fun r h => by cases h)
        have hK1 := hKp.trans (KeepTy.below hba)
        have hql : j < ((M'.map Prod.fst).take q).length := by rw [List.length_take, List.length_map]; omega
        have htk : ((M'.map Prod.fst).take q).take (j + 1) = ((M'.map Prod.fst).take q).take j ++ [x.1] := by
          rw [List.take_succ_eq_append_getElem hql]
          congr 2
          obtain ⟨_, hx2⟩ := List.getElem?_eq_some_iff.1 hx
          simp [hx2]
        have hy := HY.out (((M'.map Prod.fst).take q).take j) x.1 _ hJ1 (by rw [← htk]; exact List.take_prefix _ _)
        rw [← htk] at hy
        have HQ := Lib.hid (And.intro hJ1 hK1); clear hJ1 hK1 hJs hKp hrow htk hba hB4 hx hql
        obtain ⟨⟨x0, x1⟩, xp⟩ := x
        have hki : (j : Int) < q := by omega
        obtain ⟨fn, tmps, assign, body, hyy, hR⟩ := hy
        try dsimp only at hyy
        simp only at hyy hR q0 q1 HQ
        gi_wp2
        refine ⟨fun _ => by omega, hR.mono ?_⟩
        rintro e W5 (⟨rfl, hJ3, hk3⟩ | ⟨rfl, hJx3, hd3⟩)
        · have HZ := Lib.hid (And.intro hJ3 (HQ.out.2.trans hk3)); clear hJ3 hk3
          gi_wp2
          go_roundw
          case rel => exact ⟨j + 1, by go_num, by omega, HZ.out.1, HZ.out.2⟩
          case measure => simp [intOf]; omega
        · have hK6 := hd3 (w2.heap.size) _ (HQ.out.2.put w2.heap.size _ HR.out.2.2.1)
          have HZ := Lib.hid (HJX.out _ W5 _ (some w2.heap.size) hJx3 (grownBy_putObj' _ w2.heap.size (.deferred none)) (fun r e => by cases e; exact .inr ⟨by have := HTE.out; omega, _, hK6, rfl⟩))
          clear hJx3 hd3
          gi_wp2
          refine ⟨by simp, .inl ⟨_, _, rfl, run_takeDeferred hK6, ?_⟩⟩
          exact ⟨_, results_none rfl _ _ _, ⟨_, rfl⟩, .inr ⟨_, List.take_prefix _ _, HZ.out⟩⟩
      · obtain rfl : j = q := by omega
        rw [List.take_of_length_le (by rw [List.length_take]; omega)] at hJs
        have hK6 := hKp.put w2.heap.size _ HR.out.2.2.1
        have HZ := Lib.hid (HJ.out.1 _ wr _ (some w2.heap.size) hJs (grownBy_putObj' _ w2.heap.size (.deferred none)) (fun r e => by cases e; exact .inr ⟨by have := HTE.out; omega, _, hK6, rfl⟩))
        clear hJs hKp
        gi_wp2
        refine ⟨by simp, .inl ⟨_, _, rfl, run_takeDeferred hK6, ?_⟩⟩
        exact ⟨_, results_none rfl _ _ _, ⟨_, rfl⟩, .inl ⟨_, rfl, HZ.out⟩⟩
  case stop =>
    rintro D c pre W hD hSp h
    exact h.elim
end Go.Proofs.YtlogdionhgabdaaDoor
