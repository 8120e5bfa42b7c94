/- Several texts, joined for the limit of sixty files; each one opens with its own comment. -/
import Derived.Test.YtjcbjocgachpjaaGreatDoorJoin13
import Derived.StillTailTactics
import Derived.Test.YtjcbjocgachpjaaGreatDoorJoin8
/- tree.holds. -/
set_option linter.unusedVariables false
set_option linter.unusedSimpArgs false
namespace Go.Proofs.YtjcbjocgachpjaaGreatDoor
open Go Go.RowKit Go.Shelf
open Sw
attribute [local go_sem] Oper.semAt_some
theorem res_cellT {P : Program} {fn : Func} {p : Tmp} {ty : TypeId} (h : fn.results = #[.cell p ty]) (tmps : Array Value) (w : World) (g : Nat) (t : TypeId) (v : Value)
    (hp : tmps.getD p undef = .pointer (some ⟨g, 0, none⟩)) (hg : Blk w g t #[v]) (hu : P.underlying ty = some .bool) : (results fn tmps).run P w = .ok v w := by
  have hp' : tmps[p]?.getD undef = .pointer (some ⟨g, 0, none⟩) := by simpa using hp
  have hc : w.cell? ⟨g, 0, none⟩ = some v := by have := hg.cell 0; simpa using this
  simp [results, h, hp', asAddr, loadVar, isAgg, run_underlying hu, run_load, hc]
/-- behind some words: all of them are of the path itself -/
def HoI (T : Nat) (p : ByteArray) (pre : List NE) (W : World) : Prop := (∀ e ∈ pre, e.1 = p) ∧ Blk W T 9 #[.string p] ∧ Blk W (T + 1) 4 #[.bool false]
def HoX (T : Nat) (p : ByteArray) (c : Code) (pre : List NE) (W : World) : Prop := ∃ (pre' : List NE) (x : NE), pre = pre' ++ [x] ∧ c = .ret ∧ (∀ e ∈ pre', e.1 = p) ∧ ¬ x.1 = p ∧ Blk W (T + 1) 4 #[.bool (inS (upsS x.1) p)]
theorem HoI.own (T : Nat) (p : ByteArray) : Own (HoI T p) := fun _ A B row hs hg hr => ⟨hs.1, blk_ownF hs.2.1 hg hr, blk_ownF hs.2.2 hg hr⟩
theorem HoX.own (T : Nat) (p : ByteArray) (c : Code) : Own (HoX T p c) := fun _ A B row hs hg hr => by
  obtain ⟨p', x, e1, e2, e3, e4, h⟩ := hs
  exact ⟨p', x, e1, e2, e3, e4, blk_ownF h hg hr⟩
theorem find_first {α : Type} {f : α → Bool} {ys pre : List α} {x : α} (hp : (pre ++ [x]) <+: ys) (h1 : ∀ e ∈ pre, f e = false) (h2 : f x = true) : ys.find? f = some x := by
  obtain ⟨r, rfl⟩ := hp
  rw [List.append_assoc, List.find?_append, List.find?_eq_none.2 (fun e he => by rw [h1 e he]; simp)]
  simp [h2]
set_option maxRecDepth 100000 in
set_option maxHeartbeats 4000000 in
theorem treeHolds_any (w : World) (bt bm : Nat) (xs : List NE) (p : ByteArray) (h : TreeAt w bt bm xs) (hn : xs.length ≤ 1000000) (hp : p.size ≤ 90000) :
    Calls Tryz.prog 77 #[.pointer (some ⟨bt, 0, none⟩), .string p] w fun e w' => e = .returned (.bool (holdsT xs p)) ∧ Below w.heap.size w w' := by
  have b0 := blk_fst w #[.string p] 9 (.cells #[.bool false] 4)
  have b1 := blk_snd w (.cells #[.string p] 9) #[.bool false] 4
  have hB : Below w.heap.size w ((w.alloc (.cells #[.string p] 9)).alloc (.cells #[.bool false] 4)) := ((Below.refl _ w).alloc (Nat.le_refl _) _).alloc (by simp) _
  have hz : ((w.alloc (.cells #[.string p] 9)).alloc (.cells #[.bool false] 4)).heap.size = w.heap.size + 1 + 1 := by simp
  have hT := h.below hB
  have hok : ∀ e ∈ xs, e.1.size ≤ 90000 := fun e he => h.map.ok e he
  clear h
  refine callsIn_wide.1 (?_ : CallsIn Fence.wide 9 _ _ _ _ _)
  refine callsIn_of_wp_marks Tryz.func77 rfl trivial ?_ rfl
  simp only [Tryz.ntmps77, List.size_toArray, List.length_cons, List.length_nil, Nat.reduceAdd, Nat.reduceSub, Array.replicate_succ, Array.replicate_zero, List.push_toArray, List.append_toArray, List.nil_append, List.cons_append]
  have H0 := Lib.hid (And.intro b0 (And.intro b1 (And.intro hB (And.intro hT hz)))); clear b0 b1 hB hT hz
  have HOK := Lib.hid hok; clear hok
  gi_wp2
  obtain ⟨w1, hw1⟩ : ∃ w1, (w.alloc (.cells #[.string p] 9)).alloc (.cells #[.bool false] 4) = w1 := ⟨_, rfl⟩
  rw [hw1] at H0
  rw [hw1]
  clear hw1
  have q0 := H0.out.2.2.2.1.box.cell 0
  have q1 := H0.out.1.cell 0
  simp at q0 q1
  refine wpIn_wide.2 ?_
  go_still_tail 5, (by kernel_rfl)
  go_wp2_with fail
  have hTd := H0.out.2.2.2.1.below ((Below.refl w1.heap.size w1).drew)
  refine (srtFromSN_any _ bm xs p hTd.map hn hp).mono ?_
  rintro e w2 ⟨gb, v, rfl, hgb, hL, hge, hvb, hb2⟩
  obtain ⟨ys, hys⟩ : ∃ ys, xs.drop (lbN ordS p xs) = ys := ⟨_, rfl⟩
  rw [hys] at hL
  have hysm : ∀ e ∈ ys, e ∈ xs := fun e he => by rw [← hys] at he; exact List.mem_of_mem_drop he
  have hyl : ys.length ≤ 1000000 := by rw [← hys, List.length_drop]; omega
  have hb12 : Below w1.heap.size w1 w2 := (Below.refl _ _).drew.trans hb2
  have B0 := H0.out.1.below hb12 H0.out.1.lt
  have B1 := H0.out.2.1.below hb12 H0.out.2.1.lt
  have hBw := H0.out.2.2.1.trans (hb12.mono H0.out.2.2.1.size)
  have hz2 : w.heap.size + 1 + 1 ≤ w2.heap.size := by have := hb12.size; rw [H0.out.2.2.2.2] at this; exact this
  have HYS := Lib.hid (And.intro hys hysm); clear hys hysm hb2 hb12 hTd q0 q1
  go_wp2_with fail
  gi_wp2
  obtain ⟨T, hTe⟩ : ∃ T, T = w.heap.size := ⟨_, rfl⟩
  rw [← hTe] at B0 B1 hBw hz2 ⊢
  have HTE := Lib.hid hTe; clear hTe H0
  have hgl := hgb.lt
  refine wpIn_rangeFunc_tell (Mine := fun _ => False) (fun _ h => h.elim) rfl (by omega) (gf := 148) (lb := #[.pointer (some ⟨gb, 0, none⟩)]) rfl trivial (enters_of Tryz.func148 (by kernel_rfl) rfl)
    (toldSN_tells 8 (by omega) gb v ys w2 hgb hL hyl) KeepIt.trans (keepIt_b hgl hvb) (Below.refl _ _) (fun _ => rfl)
    (fun pre W => HoI T p pre W ∧ Below T w W)
    (fun c pre W => HoX T p c pre W ∧ Below T w W)
    (OwnM.of_none (OwnFrom.and (Own.from (HoI.own T p) _) (ownFrom_below (by have := HTE.out; omega) (by omega))))
    (fun c => OwnM.of_none (OwnFrom.and (Own.from (HoX.own T p c) _) (ownFrom_below (by have := HTE.out; omega) (by omega))))
    ⟨⟨(fun e he => by cases he), B0, B1⟩, hBw⟩
    ?a1 ?assign ?body ?done ?stop
  case assign =>
    intro l x W K hK
    gi_wp2
    exact hK
  case body =>
    rintro l pre x W ⟨⟨hno, c0, c1⟩, hB⟩ hT
    have hxm : x ∈ ys := by obtain ⟨r, hr⟩ := hT; rw [← hr]; simp
    have hxs := HOK.out x (HYS.out.2 x hxm)
    have m0 := c0.cell 0
    simp at m0
    have HI := Lib.hid (And.intro hno (And.intro c0 (And.intro c1 hB))); clear hno c0 c1 hB hT hxm
    by_cases hx : x.1 = p
    · have t1 : (x.1.toList == p.toList) = true := by rw [hx, beq_iff_eq]
      have HX := Lib.hid hx
      obtain ⟨q, n⟩ := x
      simp only at hx
      subst hx
      clear t1
      gi_wp2
      exact ⟨KeepsOthers.refl _, ⟨Nat.le_refl _, rfl, fun _ _ => rfl⟩, ⟨fun e he => by rcases List.mem_append.1 he with he | he; exact HI.out.1 e he; simp at he; subst he; rfl, HI.out.2.1, HI.out.2.2.1⟩, HI.out.2.2.2⟩
    · have t1 : (x.1.toList == p.toList) = false := by
        rw [beq_eq_false_iff_ne, ByteArray.toList_eq, ByteArray.toList_eq]
        exact fun e => hx (dat_inj e)
      have t2 : (!(x.1.toList == p.toList)) = true := by rw [t1]; rfl
      have t3 : (x.1.toList != p.toList) = true := by rw [bne, t1]; rfl
      have HX := Lib.hid hx; clear hx
      have HU := Lib.hid (under_any W p x.1 hxs)
      obtain ⟨R, hR⟩ : ∃ R, inS (upsS x.1) p = R := ⟨_, rfl⟩
      rw [hR] at HU
      have HR := Lib.hid hR; clear hR
      gi_wp2
      refine ⟨trivial, (CallsIn.inRound l (callsIn_wide.2 HU.out)).mono ?_⟩
      rintro e w5 ⟨rfl, hb5⟩
      have c1 := HI.out.2.2.1.below hb5 HI.out.2.2.1.lt
      have m1 := c1.cell 0
      have f1 := c1.frozen 0
      simp at m1
      have HC := Lib.hid (And.intro c1 hb5); clear c1 hb5
      gi_wp2
      refine ⟨(keeps_belowF HC.out.2).trans (KeepsOthers.setCell _ _ _), ⟨pre, x, rfl, rfl, HI.out.1, HX.out, ?_⟩, ?_⟩
      · rw [HR.out]; exact HC.out.1.put 0 _
      · have hlt := HI.out.2.1.lt
        exact (HI.out.2.2.2.trans (HC.out.2.mono (by omega))).setCell (p := ⟨T + 1, 0, none⟩) (by dsimp only; omega) _
  case done =>
    rintro D zs W hD hzs ⟨⟨hno, c0, c1⟩, hB⟩ hK
    have hF : holdsT xs p = false := by
      unfold holdsT
      rw [HYS.out.1, List.find?_eq_none.2 (fun e he => by rw [← (show zs = ys from hzs)] at he; simp [hno e he])]
    have m1 := c1.cell 0
    have f1 := c1.frozen 0
    simp at m1
    have hD' : w.heap.size ≤ D := by have := HTE.out; omega
    have HC := Lib.hid (And.intro c1 (And.intro hB (And.intro hK hF))); clear c0 c1 hB hK hF hno hzs
    gi_wp2
    have hK2 : (W.setCell ⟨T + 1, 0, none⟩ (.bool false)).heap[D]? = some (Obj.deferred (some [])) := (KeepsOthers.setCell W ⟨T + 1, 0, none⟩ (.bool false)).same D _ HC.out.2.2.1 rfl
    have hR2 : Blk (W.setCell ⟨T + 1, 0, none⟩ (.bool false)) (T + 1) 4 #[.bool false] := HC.out.1.put 0 (.bool false)
    have hB2 := HC.out.2.1.setCell (p := ⟨T + 1, 0, none⟩) (by dsimp only; omega) (.bool false)
    refine ⟨by simp, .inl ⟨_, _, rfl, run_takeDeferred hK2, ?_⟩⟩
    refine ⟨_, res_cellT rfl _ _ (T + 1) 4 (.bool false) rfl (blk_ownF hR2 (grownBy_putObj' _ D (.deferred none)) (fun r e => by cases e; exact ⟨_, hK2, rfl⟩)) Tryz.underlying4, by rw [HC.out.2.2.2], ?_⟩
    exact (hB2.mono (by have := HTE.out; omega)).trans (belowK_b (w := w) (Nat.le_refl _) _ D _ _ hD' hK2 rfl rfl)
  case stop =>
    rintro D c pre W hD hSp ⟨⟨p', x, rfl, rfl, hno, hx, c1⟩, hB⟩ hK
    have hF : holdsT xs p = inS (upsS x.1) p := by
      unfold holdsT
      rw [HYS.out.1, find_first hSp (fun e he => by simp [hno e he]) (by simp [hx])]
    have hD' : w.heap.size ≤ D := by have := HTE.out; omega
    have HC := Lib.hid (And.intro c1 (And.intro hB (And.intro hK hF))); clear c1 hB hK hF hno hSp
    gi_wp2
    refine ⟨by simp, .inl ⟨_, _, rfl, run_takeDeferred HC.out.2.2.1, ?_⟩⟩
    refine ⟨_, res_cellT rfl _ _ (T + 1) 4 (.bool (inS (upsS x.1) p)) rfl (blk_ownF HC.out.1 (grownBy_putObj' _ D (.deferred none)) (fun r e => by cases e; exact ⟨_, HC.out.2.2.1, rfl⟩)) Tryz.underlying4, by rw [HC.out.2.2.2], ?_⟩
    have hB2 := HC.out.2.1
    rw [HTE.out] at hB2
    exact hB2.trans (belowK_b (w := w) (Nat.le_refl _) _ D _ _ hD' HC.out.2.2.1 rfl rfl)
end Go.Proofs.YtjcbjocgachpjaaGreatDoor
/- tree.may, Put, Drop. -/
set_option linter.unusedVariables false
set_option linter.unusedSimpArgs false
namespace Go.Proofs.YtjcbjocgachpjaaGreatDoor
open Go Go.RowKit Go.Shelf
open Sw
/-- a node of data that came in -/
structure NdIn (n : Nd) : Prop where
  t0 : 0 ≤ n.time
  t1 : n.time < 4294967296
  size : n.data.size ≤ maxLen
set_option maxRecDepth 100000 in
set_option maxHeartbeats 8000000 in
theorem treeMay_any (w : World) (bt bm : Nat) (xs : List NE) (p : ByteArray) (n : Nd) (h : TreeAt w bt bm xs) (hn : xs.length ≤ 1000000) (hp : p.size ≤ 90000) (hu : (parentS p).size ≤ 90000) (hin : NdIn n) :
    Calls Tryz.prog 39 #[.pointer (some ⟨bt, 0, none⟩), .string p, .agg n.c] w fun e w' => e = .returned (.int .i64 (mayT xs p n)) ∧ Below w.heap.size w w' := by
  have HR := Lib.hid (right_any _ p (by omega) : Calls Tryz.prog 63 #[.string p] (w.alloc (.cells n.c 43)) fun e w' => e = .returned (.bool (rightL p.data.toList)) ∧ Below (w.alloc (.cells n.c 43)).heap.size (w.alloc (.cells n.c 43)) w')
  have HND := Lib.hid (fun W (hk : ¬ n.kind = 0) => nodeRight_any W n hk hin.t0 hin.t1 hin.size)
  have HPA := Lib.hid (fun W (h : TreeAt W bt bm xs) => treeParent_any W bt bm xs p h hn hp hu)
  have HHO := Lib.hid (fun W (h : TreeAt W bt bm xs) => treeHolds_any W bt bm xs p h hn hp)
  have HGE := Lib.hid (fun W (h : TreeAt W bt bm xs) => treeGet_any W bt bm xs p h hn hp)
  have HLE := Lib.hid (fun W (h : TreeAt W bt bm xs) => treeLen_any W bt bm xs h)
  have hb0 := (Below.refl w.heap.size w).alloc (Nat.le_refl _) (.cells n.c 43)
  have H0 := Lib.hid (And.intro hb0 (And.intro (Blk.new w 43 n.c) (h.below hb0))); clear hb0 h
  have hfld := nodeField0
  have HA := Lib.hid (show mayT xs p n = if rightL p.data.toList = false then 5 else if n.kind = 0 then 1 else if ¬ nodeR n = 0 then nodeR n else if ¬ parentT xs p = 0 then parentT xs p else if ¬ n.kind = 2 ∧ holdsT xs p = true then 8 else if (getT xs p).kind = 0 ∧ 500 ≤ xs.length then 4 else 0 from rfl)
  generalize mayT xs p n = ans at *
  generalize rightL p.data.toList = br at *
  generalize nodeR n = nr at *
  generalize parentT xs p = pr at *
  generalize holdsT xs p = ho at *
  generalize getT xs p = gn at *
  obtain ⟨m, hm⟩ : ∃ m, xs.length = m := ⟨_, rfl⟩
  rw [hm] at HA HLE hn
  have HM := Lib.hid hm; clear hm
  obtain ⟨kd, md, tm, dt⟩ := n
  unfold Nd.c at *
  simp only at HR HND H0 HA
  obtain ⟨gk, gm, gt, gd⟩ := gn
  simp only at HGE HA
  clear hin hp hu
  go_enter Tryz.func39, Tryz.ntmps39
  go_wp2_with fail
  refine HR.out.mono ?_
  rintro e w1 ⟨rfl, hb1⟩
  have hbw := H0.out.1.trans (hb1.mono H0.out.1.size)
  have hB := H0.out.2.1.below hb1 H0.out.2.1.lt
  have H1 := Lib.hid (And.intro hbw (And.intro hB (H0.out.2.2.below hb1))); clear hbw hB hb1 H0 HR
  have x0 := H1.out.2.1.cell 0
  have x1 := H1.out.2.1.cell 1
  have x2 := H1.out.2.1.cell 2
  have x3 := H1.out.2.1.cell 3
  simp at x0 x1 x2 x3
  cases br with
  | false =>
    go_wp2_with fail
    go_ret
    exact ⟨by rw [show ans = 5 from by simpa using HA.out]; rfl, H1.out.1⟩
  | true =>
    by_cases k0 : kd = 0
    · subst k0
      go_wp2_with fail
      go_ret
      exact ⟨by rw [show ans = 1 from by simpa using HA.out]; rfl, H1.out.1⟩
    · have e0 : (kd == 0) = false := by rw [beq_eq_false_iff_ne]; exact k0
      have HN := Lib.hid (HND.out w1 k0)
      have HK := Lib.hid k0; clear k0
      go_wp2_with fail
      refine HN.out.mono ?_
      rintro e w2 ⟨rfl, hb2⟩
      have hbw := H1.out.1.trans (hb2.mono H1.out.1.size)
      have hB := H1.out.2.1.below hb2 H1.out.2.1.lt
      have H2 := Lib.hid (And.intro hbw (And.intro hB (H1.out.2.2.below hb2))); clear hbw hB hb2 H1 HN x0 x1 x2 x3
      have x0 := H2.out.2.1.cell 0
      simp at x0
      by_cases hnr : nr = 0
      · subst hnr
        have HP2 := Lib.hid (HPA.out w2 H2.out.2.2)
        go_wp2_with fail
        refine HP2.out.mono ?_
        rintro e w3 ⟨rfl, hb3⟩
        have hbw := H2.out.1.trans (hb3.mono H2.out.1.size)
        have hB := H2.out.2.1.below hb3 H2.out.2.1.lt
        have H3 := Lib.hid (And.intro hbw (And.intro hB (H2.out.2.2.below hb3))); clear hbw hB hb3 H2 HP2 x0
        have x0 := H3.out.2.1.cell 0
        simp at x0
        by_cases hpr : pr = 0
        · subst hpr
          have HFIN : Hid (∀ (w4 : World) (a : Act) (K : Act → World → Prop), True) := Lib.hid (fun _ _ _ => trivial)
          by_cases k2 : kd = 2
          · subst k2
            have HG4 := Lib.hid (HGE.out w3 H3.out.2.2)
            go_wp2_with fail
            refine HG4.out.mono ?_
            rintro e w5 ⟨rfl, hb5⟩
            have H5 := Lib.hid (And.intro (H3.out.1.trans (hb5.mono H3.out.1.size)) (H3.out.2.2.below hb5)); clear hb5 H3 HG4
            by_cases g0 : gk = 0
            · subst g0
              have HL5 := Lib.hid (HLE.out w5 H5.out.2)
              by_cases hl : (500 : Int) ≤ m
              all_goals
                go_wp2_with fail
                refine HL5.out.mono ?_
                rintro e w6 ⟨rfl, rfl⟩
                go_wp2_with fail
                go_ret
                refine ⟨?_, H5.out.1⟩
                first | (rw [show ans = 4 from by simpa [HK.out, show 500 ≤ m by omega] using HA.out]; rfl) | (rw [show ans = 0 from by simpa [HK.out, show ¬ 500 ≤ m by omega] using HA.out]; rfl)
            · have g1 : (gk == 0) = false := by rw [beq_eq_false_iff_ne]; exact g0
              have HG0 := Lib.hid g0; clear g0
              go_wp2_with fail
              go_ret
              refine ⟨?_, H5.out.1⟩
              rw [show ans = 0 from by simpa [HK.out, HG0.out] using HA.out]; rfl
          · have e2 : (kd == 2) = false := by rw [beq_eq_false_iff_ne]; exact k2
            have e2' : (kd != 2) = true := by rw [bne_iff_ne]; exact k2
            have HK2 := Lib.hid k2; clear k2
            have HH3 := Lib.hid (HHO.out w3 H3.out.2.2)
            go_wp2_with fail
            refine HH3.out.mono ?_
            rintro e w4 ⟨rfl, hb4⟩
            have H4 := Lib.hid (And.intro (H3.out.1.trans (hb4.mono H3.out.1.size)) (H3.out.2.2.below hb4)); clear hb4 H3 HH3 x0
            cases ho with
            | true =>
              go_wp2_with fail
              go_ret
              refine ⟨?_, H4.out.1⟩
              rw [show ans = 8 from by simpa [HK.out, HK2.out] using HA.out]; rfl
            | false =>
              have HG4 := Lib.hid (HGE.out w4 H4.out.2)
              go_wp2_with fail
              refine HG4.out.mono ?_
              rintro e w5 ⟨rfl, hb5⟩
              have H5 := Lib.hid (And.intro (H4.out.1.trans (hb5.mono H4.out.1.size)) (H4.out.2.below hb5)); clear hb5 H4 HG4
              by_cases g0 : gk = 0
              · subst g0
                have HL5 := Lib.hid (HLE.out w5 H5.out.2)
                by_cases hl : (500 : Int) ≤ m
                all_goals
                  go_wp2_with fail
                  refine HL5.out.mono ?_
                  rintro e w6 ⟨rfl, rfl⟩
                  go_wp2_with fail
                  go_ret
                  refine ⟨?_, H5.out.1⟩
                  first | (rw [show ans = 4 from by simpa [HK.out, HK2.out, show 500 ≤ m by omega] using HA.out]; rfl) | (rw [show ans = 0 from by simpa [HK.out, HK2.out, show ¬ 500 ≤ m by omega] using HA.out]; rfl)
              · have g1 : (gk == 0) = false := by rw [beq_eq_false_iff_ne]; exact g0
                have HG0 := Lib.hid g0; clear g0
                go_wp2_with fail
                go_ret
                refine ⟨?_, H5.out.1⟩
                rw [show ans = 0 from by simpa [HK.out, HG0.out] using HA.out]; rfl
        · have p0 : (pr == 0) = false := by rw [beq_eq_false_iff_ne]; exact hpr
          have p1 : (pr != 0) = true := by rw [bne_iff_ne]; exact hpr
          have HPR := Lib.hid hpr; clear hpr
          go_wp2_with fail
          go_ret
          exact ⟨by rw [show ans = pr from by simpa [HK.out, HPR.out] using HA.out]; rfl, H3.out.1⟩
      · have p0 : (nr == 0) = false := by rw [beq_eq_false_iff_ne]; exact hnr
        have p1 : (nr != 0) = true := by rw [bne_iff_ne]; exact hnr
        have HNR := Lib.hid hnr; clear hnr
        go_wp2_with fail
        go_ret
        exact ⟨by rw [show ans = nr from by simpa [HK.out, HNR.out] using HA.out]; rfl, H2.out.1⟩
theorem putT_len (xs : List NE) (p : ByteArray) (n : Nd) : (putT xs p n).length ≤ xs.length + 1 := by
  unfold putT
  split
  · rw [put_len]; split <;> omega
  · omega
set_option maxRecDepth 100000 in
set_option maxHeartbeats 4000000 in
theorem treePut_any (w : World) (bt bm : Nat) (xs : List NE) (p : ByteArray) (n : Nd) (h : TreeAt w bt bm xs) (hn : xs.length + 1 ≤ 1000000) (hp : p.size ≤ 90000) (hu : (parentS p).size ≤ 90000) (hin : NdIn n) :
    Calls Tryz.prog 17 #[.pointer (some ⟨bt, 0, none⟩), .string p, .agg n.c] w fun e w' => e = .returned (.int .i64 (mayT xs p n)) ∧ TreeAt w' bt bm (putT xs p n) ∧ w.grownBy w' (some bm) := by
  have hb0 := (Below.refl w.heap.size w).alloc (Nat.le_refl _) (.cells n.c 43)
  have hT0 := h.below hb0
  have HMY := Lib.hid (treeMay_any _ bt bm xs p n hT0 (by omega) hp hu hin)
  have HPU := Lib.hid (fun W (h : SMapSN W bm xs) => srtPutSN_any W bm xs p n h hn hp)
  have H0 := Lib.hid (And.intro hb0 (And.intro (Blk.new w 43 n.c) hT0)); clear hb0 hT0 h
  have HPT := Lib.hid (show putT xs p n = if mayT xs p n = 0 then putN ordS p n xs else xs from rfl)
  generalize mayT xs p n = ans at *
  generalize putT xs p n = zs at *
  generalize inN ordS p xs = bi at *
  obtain ⟨kd, md, tm, dt⟩ := n
  unfold Nd.c at *
  simp only at HMY HPU H0
  clear hin hp hu
  go_enter Tryz.func17, Tryz.ntmps17
  have x0 := H0.out.2.1.cell 0
  go_wp2_with fail
  refine HMY.out.mono ?_
  rintro e w1 ⟨rfl, hb1⟩
  have hbw := H0.out.1.trans (hb1.mono H0.out.1.size)
  have hB := H0.out.2.1.below hb1 H0.out.2.1.lt
  have H1 := Lib.hid (And.intro hbw (And.intro hB (H0.out.2.2.below hb1))); clear hbw hB hb1 H0 HMY x0
  by_cases ha : ans = 0
  · subst ha
    have x0 := H1.out.2.1.cell 0
    have x1 := H1.out.2.1.cell 1
    have x2 := H1.out.2.1.cell 2
    have x3 := H1.out.2.1.cell 3
    have q0 := H1.out.2.2.box.cell 0
    simp at x0 x1 x2 x3 q0
    go_wp2_with fail
    go_still_tail 6, (by kernel_rfl)
    go_wp2_with fail
    have hT1 := H1.out.2.2.below ((Below.refl w1.heap.size w1).drew)
    refine (HPU.out w1.drew hT1.map).mono ?_
    rintro e w2 ⟨rfl, hm2, hg2⟩
    have HF := Lib.hid (And.intro (hT1.grown hm2 hg2) (grown_trans (grown_below (row := some bm) (H1.out.1.drew)) hg2))
    clear hm2 hg2 hT1 x0 x1 x2 x3 q0
    go_wp2_with fail
    go_ret
    exact ⟨rfl, by have := HPT.out; simp at this; rw [this]; exact HF.out.1, HF.out.2⟩
  · have a0 : (ans == 0) = false := by rw [beq_eq_false_iff_ne]; exact ha
    have HA := Lib.hid ha; clear ha
    go_wp2_with fail
    go_ret
    exact ⟨rfl, by have := HPT.out; simp [HA.out] at this; rw [this]; exact H1.out.2.2, grown_below H1.out.1⟩
end Go.Proofs.YtjcbjocgachpjaaGreatDoor
/- The contract of the reference's Before. -/
set_option linter.unusedVariables false
set_option linter.unusedSimpArgs false
namespace Go.Proofs.YtjcbjocgachpjaaGreatDoor
open Go Go.RowKit
open Sw
open Go.Lib (compareBytes)
set_option maxRecDepth 100000 in
set_option maxHeartbeats 4000000 in
theorem refBefore_any (w : World) (p q : ByteArray) (hp : p.size ≤ 100000) (hq : q.size ≤ 100000) :
    Calls Tryz.prog 109 #[.string p, .string q] w fun e w' => e = .returned (.bool (decide (ordS p q = -1))) ∧ Below w.heap.size w w' := by
  have HP := Lib.hid (refParts_any w p hp)
  have HQ := Lib.hid (fun W => refParts_any W q hq)
  have hpl := wt_len (partsS p)
  have hql := wt_len (partsS q)
  have hpw := partsS_wt p
  have hqw := partsS_wt q
  have ho : ordS p q = if (partsS p).length = 0 ∧ (partsS q).length = 0 then compareBytes p.data.toList q.data.toList else cL (partsS p) (partsS q) := rfl
  have hls := less_str p q
  generalize ordS p q = R at *
  generalize hl : partsS p = l at *
  generalize hm : partsS q = m at *
  clear hl hm
  have hat := fun k => cL_at k l m
  have hout := fun k => cL_out k l m
  have hout2 := fun k => cL_out2 k l m
  have htk : ∀ k, l.take k = m.take k → ∀ (k1 : k < l.length) (k2 : k < m.length), compareBytes l[k].data.toList m[k].data.toList = 0 → l.take (k + 1) = m.take (k + 1) := fun k h k1 k2 hc => by
    rw [List.take_succ_eq_append_getElem k1, List.take_succ_eq_append_getElem k2, h, dat_inj (cb_zero _ _ hc)]
  obtain ⟨N, hN⟩ : ∃ N, l.length = N := ⟨_, rfl⟩
  obtain ⟨M, hM⟩ : ∃ M, m.length = M := ⟨_, rfl⟩
  rw [hN] at ho hpl
  rw [hM] at ho hql
  rw [hN, hM] at hout hout2
  have HA := Lib.hid (And.intro hat (And.intro hout (And.intro hout2 htk))); clear hat hout hout2 htk
  have HL := Lib.hid (And.intro hN hM); clear hN hM
  have hN6 : N ≤ 1000000 := by omega
  have hM6 : M ≤ 1000000 := by omega
  clear hpl hql hpw hqw
  go_enter Tryz.func109, Tryz.ntmps109
  go_wp2_with fail
  refine HP.out.mono ?_
  rintro e w1 ⟨v1, rfl, ow1, hb1⟩
  obtain ⟨A1, c1, rfl, hc1, hm1, s1⟩ := SlV.of_own ow1 bE_len (by omega)
  go_wp2_with fail
  refine (HQ.out _).mono ?_
  rintro e w2 ⟨v2, rfl, ow2, hb2⟩
  obtain ⟨A2, c2, rfl, hc2, hm2, s2⟩ := SlV.of_own ow2 bE_len (by omega)
  have hbw := hb1.trans (hb2.mono hb1.size)
  have HS := Lib.hid (And.intro (s1.below hb2 (Nat.le_refl _)) s2)
  rw [HL.out.1] at hc1 ⊢
  rw [HL.out.2] at hc2 ⊢
  unfold maxLen at hm1 hm2
  clear s1 s2 ow1 ow2
  by_cases h0 : N = 0 ∧ M = 0
  · rw [if_pos h0] at ho
    obtain ⟨h1, h2⟩ := h0
    have n1 : ((N : Int) == 0) = true := by rw [beq_iff_eq]; omega
    have n2 : ((M : Int) == 0) = true := by rw [beq_iff_eq]; omega
    subst ho
    clear h1 h2
    go_wp2_with fail
    go_ret
    exact ⟨by rw [← hls]; first | done | rfl, hbw⟩
  · rw [if_neg h0] at ho
    rw [← ho] at HA
    clear ho hls
    have HR := Lib.hid h0; clear h0
    go_upto_region 2 with fail
    go_cut [19] from 11 to 19 (fun b wx => b = .bool false ∧ wx = w2)
    case first =>
      by_cases h1 : N = 0
      · have h2 : ¬ M = 0 := fun e => HR.out ⟨h1, e⟩
        have n1 : ((N : Int) == 0) = true := by rw [beq_iff_eq]; omega
        have n2 : ((M : Int) == 0) = false := by rw [beq_eq_false_iff_ne]; omega
        clear h1 h2
        go_wp2_with fail
        go_meet
        exact ⟨rfl, rfl⟩
      · have n1 : ((N : Int) == 0) = false := by rw [beq_eq_false_iff_ne]; omega
        clear h1
        go_wp2_with fail
        go_meet
        exact ⟨rfl, rfl⟩
    case rest =>
      obtain ⟨rfl, rfl⟩ := hcut
      go_wp2_with fail
      go_loopw [4, 7] (fun r iv wr => ∃ k n : Nat, k ≤ N ∧ k ≤ M ∧ r = .bool false ∧ iv = .int .i64 k ∧ l.take k = m.take k ∧ wr = wc.drewN n) (fun _ iv _ => N - (intOf iv).toNat)
      case atStart => exact ⟨0, 0, Nat.zero_le _, Nat.zero_le _, rfl, rfl, by simp, rfl⟩
      case round =>
        obtain ⟨k, n, hkN, hkM, rfl, rfl, htk, rfl⟩ := hrel
        have HT := Lib.hid htk; clear htk
        have bD : Below w.heap.size w (wc.drewN n) := below_drewN hbw n
        by_cases hlt : k < N
        · have i1 : (k : Int) < N := by omega
          have k1 : k < l.length := by have := HL.out; omega
          by_cases hlt2 : k < M
          · have i2 : (k : Int) < M := by omega
            have k2 : k < m.length := by have := HL.out; omega
            obtain ⟨b1, o1, rfl, _, q1⟩ := HS.out.1 (by omega)
            have g1 := q1 k k1 0 (by omega)
            obtain ⟨b2, o2, rfl, _, q2⟩ := HS.out.2 (by omega)
            have g2 := q2 k k2 0 (by omega)
            simp [bE] at g1 g2
            have HX := Lib.hid (HA.out.1 k HT.out k1 k2)
            have HY := Lib.hid (HA.out.2.2.2 k HT.out k1 k2)
            have he := eq_str l[k] m[k]
            have hls := less_str l[k] m[k]
            clear q1 q2
            generalize l[k] = x at *
            generalize m[k] = y at *
            generalize compareBytes x.data.toList y.data.toList = cc at *
            have i0 : (0 : Int) ≤ k := by omega
            by_cases hc0 : cc = 0
            · have HNX := Lib.hid (HY.out hc0)
              rw [decide_eq_true hc0] at he
              clear hls
              have HC0 := Lib.hid hc0; clear hc0
              go_wp2_with fail
              go_quiet (fail)
              go_wp2_with fail
              go_roundw
              case rel => exact ⟨k + 1, n + nq, by omega, by omega, rfl, by go_num, HNX.out, rfl⟩
              case measure => simp [intOf]; omega
            · have hR : R = cc := by have := HX.out; rw [if_neg hc0] at this; exact this
              subst hR
              rw [decide_eq_false hc0] at he
              have HLS := Lib.hid hls; clear hls hc0
              go_wp2_with fail
              go_quiet (fail)
              go_wp2_with fail
              go_quiet (fail)
              go_wp2_with fail
              go_ret
              exact ⟨by rw [← HLS.out]; first | done | rfl, below_drewN (below_drewN bD _) _⟩
          · obtain rfl : k = M := by omega
            have hR := HA.out.2.2.1 k HT.out rfl hlt
            subst hR
            have i2 : ¬ (N : Int) < k := by omega
            clear hlt hlt2
            go_wp2_with fail
            go_ret
            exact ⟨rfl, bD⟩
        · obtain rfl : k = N := by omega
          have hR := HA.out.2.1 k HT.out rfl
          clear hlt
          by_cases hkm : k < M
          · rw [if_pos hkm] at hR
            subst hR
            have i3 : (k : Int) < M := by omega
            go_wp2_with fail
            go_ret
            exact ⟨rfl, bD⟩
          · rw [if_neg hkm] at hR
            subst hR
            have i3 : ¬ (k : Int) < M := by omega
            go_wp2_with fail
            go_ret
            exact ⟨rfl, bD⟩
end Go.Proofs.YtjcbjocgachpjaaGreatDoor
