/- Several texts, joined for the limit of sixty files; each one opens with its own comment. -/
import Derived.Test.YtnpehjgnplaabaaGreatDoorJoin12
import Derived.StillTailTactics
import Derived.Test.YtnpehjgnplaabaaGreatDoorJoin7
import Derived.Test.YtnpehjgnplaabaaGreatDoorJoin9
import Derived.Test.YtnpehjgnplaabaaGreatDoorJoin1
import Derived.Test.YtnpehjgnplaabaaGreatDoorRows
import Derived.Deep.WholeRow
import Derived.Laws.BitsAllLaws
/- Several texts, joined for the limit of sixty files; each one opens with its own comment. -/
/- tree.holds. -/
set_option linter.unusedVariables false
set_option linter.unusedSimpArgs false
namespace Go.Proofs.YtnpehjgnplaabaaGreatDoor
open Go Go.RowKit Go.Shelf
open Sw
attribute [local go_sem] Oper.semAt_some
theorem res_cellT {P : Program} {fn : Func} {p : Tmp} {ty : TypeId} (h : fn.results = #[.cell p ty]) (tmps : Array Value) (w : World) (g : Nat) (t : TypeId) (v : Value)
    (hp : tmps.getD p undef = .pointer (some ⟨g, 0, none⟩)) (hg : Blk w g t #[v]) (hu : P.underlying ty = some .bool) : (results fn tmps).run P w = .ok v w := by
  have hp' : tmps[p]?.getD undef = .pointer (some ⟨g, 0, none⟩) := by simpa using hp
  have hc : w.cell? ⟨g, 0, none⟩ = some v := by have := hg.cell 0; simpa using this
  simp [results, h, hp', asAddr, loadVar, isAgg, run_underlying hu, run_load, hc]
/-- behind some words: all of them are of the path itself -/
def HoI (T : Nat) (p : ByteArray) (pre : List NE) (W : World) : Prop := (∀ e ∈ pre, e.1 = p) ∧ Blk W T 9 #[.string p] ∧ Blk W (T + 1) 4 #[.bool false]
def HoX (T : Nat) (p : ByteArray) (c : Code) (pre : List NE) (W : World) : Prop := ∃ (pre' : List NE) (x : NE), pre = pre' ++ [x] ∧ c = .ret ∧ (∀ e ∈ pre', e.1 = p) ∧ ¬ x.1 = p ∧ Blk W (T + 1) 4 #[.bool (inS (upsS x.1) p)]
theorem HoI.own (T : Nat) (p : ByteArray) : Own (HoI T p) := fun _ A B row hs hg hr => ⟨hs.1, blk_ownF hs.2.1 hg hr, blk_ownF hs.2.2 hg hr⟩
theorem HoX.own (T : Nat) (p : ByteArray) (c : Code) : Own (HoX T p c) := fun _ A B row hs hg hr => by
  obtain ⟨p', x, e1, e2, e3, e4, h⟩ := hs
  exact ⟨p', x, e1, e2, e3, e4, blk_ownF h hg hr⟩
theorem find_first {α : Type} {f : α → Bool} {ys pre : List α} {x : α} (hp : (pre ++ [x]) <+: ys) (h1 : ∀ e ∈ pre, f e = false) (h2 : f x = true) : ys.find? f = some x := by
  obtain ⟨r, rfl⟩ := hp
  rw [List.append_assoc, List.find?_append, List.find?_eq_none.2 (fun e he => by rw [h1 e he]; simp)]
  simp [h2]
set_option maxRecDepth 100000 in
set_option maxHeartbeats 4000000 in
theorem treeHolds_any (w : World) (bt bm : Nat) (xs : List NE) (p : ByteArray) (h : TreeAt w bt bm xs) (hn : xs.length ≤ 1000000) (hp : p.size ≤ 90000) :
    Calls Tryz.prog 83 #[.pointer (some ⟨bt, 0, none⟩), .string p] w fun e w' => e = .returned (.bool (holdsT xs p)) ∧ Below w.heap.size w w' := by
  have b0 := blk_fst w #[.string p] 9 (.cells #[.bool false] 4)
  have b1 := blk_snd w (.cells #[.string p] 9) #[.bool false] 4
  have hB : Below w.heap.size w ((w.alloc (.cells #[.string p] 9)).alloc (.cells #[.bool false] 4)) := ((Below.refl _ w).alloc (Nat.le_refl _) _).alloc (by simp) _
  have hz : ((w.alloc (.cells #[.string p] 9)).alloc (.cells #[.bool false] 4)).heap.size = w.heap.size + 1 + 1 := by simp
  have hT := h.below hB
  have hok : ∀ e ∈ xs, e.1.size ≤ 90000 := fun e he => h.map.ok e he
  clear h
  refine callsIn_wide.1 (?_ : CallsIn Fence.wide 9 _ _ _ _ _)
  refine callsIn_of_wp_marks Tryz.func83 rfl trivial ?_ rfl
  simp only [Tryz.ntmps83, List.size_toArray, List.length_cons, List.length_nil, Nat.reduceAdd, Nat.reduceSub, Array.replicate_succ, Array.replicate_zero, List.push_toArray, List.append_toArray, List.nil_append, List.cons_append]
  have H0 := Lib.hid (And.intro b0 (And.intro b1 (And.intro hB (And.intro hT hz)))); clear b0 b1 hB hT hz
  have HOK := Lib.hid hok; clear hok
  gi_wp2
  obtain ⟨w1, hw1⟩ : ∃ w1, (w.alloc (.cells #[.string p] 9)).alloc (.cells #[.bool false] 4) = w1 := ⟨_, rfl⟩
  rw [hw1] at H0
  rw [hw1]
  clear hw1
  have q0 := H0.out.2.2.2.1.box.cell 0
  have q1 := H0.out.1.cell 0
  simp at q0 q1
  refine wpIn_wide.2 ?_
  go_still_tail 5, (by kernel_rfl)
  go_wp2_with fail
  have hTd := H0.out.2.2.2.1.below ((Below.refl w1.heap.size w1).drew)
  refine (srtFromSN_any _ bm xs p hTd.map hn hp).mono ?_
  rintro e w2 ⟨gb, v, rfl, hgb, hL, hge, hvb, hb2⟩
  obtain ⟨ys, hys⟩ : ∃ ys, xs.drop (lbN ordS p xs) = ys := ⟨_, rfl⟩
  rw [hys] at hL
  have hysm : ∀ e ∈ ys, e ∈ xs := fun e he => by rw [← hys] at he; exact List.mem_of_mem_drop he
  have hyl : ys.length ≤ 1000000 := by rw [← hys, List.length_drop]; omega
  have hb12 : Below w1.heap.size w1 w2 := (Below.refl _ _).drew.trans hb2
  have B0 := H0.out.1.below hb12 H0.out.1.lt
  have B1 := H0.out.2.1.below hb12 H0.out.2.1.lt
  have hBw := H0.out.2.2.1.trans (hb12.mono H0.out.2.2.1.size)
  have hz2 : w.heap.size + 1 + 1 ≤ w2.heap.size := by have := hb12.size; rw [H0.out.2.2.2.2] at this; exact this
  have HYS := Lib.hid (And.intro hys hysm); clear hys hysm hb2 hb12 hTd q0 q1
  go_wp2_with fail
  gi_wp2
  obtain ⟨T, hTe⟩ : ∃ T, T = w.heap.size := ⟨_, rfl⟩
  rw [← hTe] at B0 B1 hBw hz2 ⊢
  have HTE := Lib.hid hTe; clear hTe H0
  have hgl := hgb.lt
  refine wpIn_rangeFunc_tell (Mine := fun _ => False) (fun _ h => h.elim) rfl (by omega) (gf := 154) (lb := #[.pointer (some ⟨gb, 0, none⟩)]) rfl trivial (enters_of Tryz.func154 (by kernel_rfl) rfl)
    (toldSN_tells 8 (by omega) gb v ys w2 hgb hL hyl) KeepIt.trans (keepIt_b hgl hvb) (Below.refl _ _) (fun _ => rfl)
    (fun pre W => HoI T p pre W ∧ Below T w W)
    (fun c pre W => HoX T p c pre W ∧ Below T w W)
    (OwnM.of_none (OwnFrom.and (Own.from (HoI.own T p) _) (ownFrom_below (by have := HTE.out; omega) (by omega))))
    (fun c => OwnM.of_none (OwnFrom.and (Own.from (HoX.own T p c) _) (ownFrom_below (by have := HTE.out; omega) (by omega))))
    ⟨⟨(fun e he => by cases he), B0, B1⟩, hBw⟩
    ?a1 ?assign ?body ?done ?stop
  case assign =>
    intro l x W K hK
    gi_wp2
    exact hK
  case body =>
    rintro l pre x W ⟨⟨hno, c0, c1⟩, hB⟩ hT
    have hxm : x ∈ ys := by obtain ⟨r, hr⟩ := hT; rw [← hr]; simp
    have hxs := HOK.out x (HYS.out.2 x hxm)
    have m0 := c0.cell 0
    simp at m0
    have HI := Lib.hid (And.intro hno (And.intro c0 (And.intro c1 hB))); clear hno c0 c1 hB hT hxm
    by_cases hx : x.1 = p
    · have t1 : (x.1.toList == p.toList) = true := by rw [hx, beq_iff_eq]
      have HX := Lib.hid hx
      obtain ⟨q, n⟩ := x
      simp only at hx
      subst hx
      clear t1
      gi_wp2
      exact ⟨KeepsOthers.refl _, ⟨Nat.le_refl _, rfl, fun _ _ => rfl⟩, ⟨fun e he => by rcases List.mem_append.1 he with he | he; exact HI.out.1 e he; simp at he; subst he; rfl, HI.out.2.1, HI.out.2.2.1⟩, HI.out.2.2.2⟩
    · have t1 : (x.1.toList == p.toList) = false := by
        rw [beq_eq_false_iff_ne, ByteArray.toList_eq, ByteArray.toList_eq]
        exact fun e => hx (dat_inj e)
      have t2 : (!(x.1.toList == p.toList)) = true := by rw [t1]; rfl
      have t3 : (x.1.toList != p.toList) = true := by rw [bne, t1]; rfl
      have HX := Lib.hid hx; clear hx
      have HU := Lib.hid (under_any W p x.1 hxs)
      obtain ⟨R, hR⟩ : ∃ R, inS (upsS x.1) p = R := ⟨_, rfl⟩
      rw [hR] at HU
      have HR := Lib.hid hR; clear hR
      gi_wp2
      refine ⟨trivial, (CallsIn.inRound l (callsIn_wide.2 HU.out)).mono ?_⟩
      rintro e w5 ⟨rfl, hb5⟩
      have c1 := HI.out.2.2.1.below hb5 HI.out.2.2.1.lt
      have m1 := c1.cell 0
      have f1 := c1.frozen 0
      simp at m1
      have HC := Lib.hid (And.intro c1 hb5); clear c1 hb5
      gi_wp2
      refine ⟨(keeps_belowF HC.out.2).trans (KeepsOthers.setCell _ _ _), ⟨pre, x, rfl, rfl, HI.out.1, HX.out, ?_⟩, ?_⟩
      · rw [HR.out]; exact HC.out.1.put 0 _
      · have hlt := HI.out.2.1.lt
        exact (HI.out.2.2.2.trans (HC.out.2.mono (by omega))).setCell (p := ⟨T + 1, 0, none⟩) (by dsimp only; omega) _
  case done =>
    rintro D zs W hD hzs ⟨⟨hno, c0, c1⟩, hB⟩ hK
    have hF : holdsT xs p = false := by
      unfold holdsT
      rw [HYS.out.1, List.find?_eq_none.2 (fun e he => by rw [← (show zs = ys from hzs)] at he; simp [hno e he])]
    have m1 := c1.cell 0
    have f1 := c1.frozen 0
    simp at m1
    have hD' : w.heap.size ≤ D := by have := HTE.out; omega
    have HC := Lib.hid (And.intro c1 (And.intro hB (And.intro hK hF))); clear c0 c1 hB hK hF hno hzs
    gi_wp2
    have hK2 : (W.setCell ⟨T + 1, 0, none⟩ (.bool false)).heap[D]? = some (Obj.deferred (some [])) := (KeepsOthers.setCell W ⟨T + 1, 0, none⟩ (.bool false)).same D _ HC.out.2.2.1 rfl
    have hR2 : Blk (W.setCell ⟨T + 1, 0, none⟩ (.bool false)) (T + 1) 4 #[.bool false] := HC.out.1.put 0 (.bool false)
    have hB2 := HC.out.2.1.setCell (p := ⟨T + 1, 0, none⟩) (by dsimp only; omega) (.bool false)
    refine ⟨by simp, .inl ⟨_, _, rfl, run_takeDeferred hK2, ?_⟩⟩
    refine ⟨_, res_cellT rfl _ _ (T + 1) 4 (.bool false) rfl (blk_ownF hR2 (grownBy_putObj' _ D (.deferred none)) (fun r e => by cases e; exact ⟨_, hK2, rfl⟩)) Tryz.underlying4, by rw [HC.out.2.2.2], ?_⟩
    exact (hB2.mono (by have := HTE.out; omega)).trans (belowK_b (w := w) (Nat.le_refl _) _ D _ _ hD' hK2 rfl rfl)
  case stop =>
    rintro D c pre W hD hSp ⟨⟨p', x, rfl, rfl, hno, hx, c1⟩, hB⟩ hK
    have hF : holdsT xs p = inS (upsS x.1) p := by
      unfold holdsT
      rw [HYS.out.1, find_first hSp (fun e he => by simp [hno e he]) (by simp [hx])]
    have hD' : w.heap.size ≤ D := by have := HTE.out; omega
    have HC := Lib.hid (And.intro c1 (And.intro hB (And.intro hK hF))); clear c1 hB hK hF hno hSp
    gi_wp2
    refine ⟨by simp, .inl ⟨_, _, rfl, run_takeDeferred HC.out.2.2.1, ?_⟩⟩
    refine ⟨_, res_cellT rfl _ _ (T + 1) 4 (.bool (inS (upsS x.1) p)) rfl (blk_ownF HC.out.1 (grownBy_putObj' _ D (.deferred none)) (fun r e => by cases e; exact ⟨_, HC.out.2.2.1, rfl⟩)) Tryz.underlying4, by rw [HC.out.2.2.2], ?_⟩
    have hB2 := HC.out.2.1
    rw [HTE.out] at hB2
    exact hB2.trans (belowK_b (w := w) (Nat.le_refl _) _ D _ _ hD' HC.out.2.2.1 rfl rfl)
end Go.Proofs.YtnpehjgnplaabaaGreatDoor
/- tree.may, Put, Drop. -/
set_option linter.unusedVariables false
set_option linter.unusedSimpArgs false
namespace Go.Proofs.YtnpehjgnplaabaaGreatDoor
open Go Go.RowKit Go.Shelf
open Sw
/-- a node of data that came in -/
structure NdIn (n : Nd) : Prop where
  t0 : 0 ≤ n.time
  t1 : n.time < 4294967296
  size : n.data.size ≤ maxLen
set_option maxRecDepth 100000 in
set_option maxHeartbeats 8000000 in
theorem treeMay_any (w : World) (bt bm : Nat) (xs : List NE) (p : ByteArray) (n : Nd) (h : TreeAt w bt bm xs) (hn : xs.length ≤ 1000000) (hp : p.size ≤ 90000) (hu : (parentS p).size ≤ 90000) (hin : NdIn n) :
    Calls Tryz.prog 49 #[.pointer (some ⟨bt, 0, none⟩), .string p, .agg n.c] w fun e w' => e = .returned (.int .i64 (mayT xs p n)) ∧ Below w.heap.size w w' := by
  have HR := Lib.hid (right_any _ p (by omega) : Calls Tryz.prog 80 #[.string p] (w.alloc (.cells n.c 57)) fun e w' => e = .returned (.bool (rightL p.data.toList)) ∧ Below (w.alloc (.cells n.c 57)).heap.size (w.alloc (.cells n.c 57)) w')
  have HND := Lib.hid (fun W (hk : ¬ n.kind = 0) => nodeRight_any W n hk hin.t0 hin.t1 hin.size)
  have HPA := Lib.hid (fun W (h : TreeAt W bt bm xs) => treeParent_any W bt bm xs p h hn hp hu)
  have HHO := Lib.hid (fun W (h : TreeAt W bt bm xs) => treeHolds_any W bt bm xs p h hn hp)
  have HGE := Lib.hid (fun W (h : TreeAt W bt bm xs) => treeGet_any W bt bm xs p h hn hp)
  have HLE := Lib.hid (fun W (h : TreeAt W bt bm xs) => treeLen_any W bt bm xs h)
  have hb0 := (Below.refl w.heap.size w).alloc (Nat.le_refl _) (.cells n.c 57)
  have H0 := Lib.hid (And.intro hb0 (And.intro (Blk.new w 57 n.c) (h.below hb0))); clear hb0 h
  have hfld := nodeField0
  have HA := Lib.hid (show mayT xs p n = if rightL p.data.toList = false then 5 else if n.kind = 0 then 1 else if ¬ nodeR n = 0 then nodeR n else if ¬ parentT xs p = 0 then parentT xs p else if ¬ n.kind = 2 ∧ holdsT xs p = true then 8 else if (getT xs p).kind = 0 ∧ 500 ≤ xs.length then 4 else 0 from rfl)
  generalize mayT xs p n = ans at *
  generalize rightL p.data.toList = br at *
  generalize nodeR n = nr at *
  generalize parentT xs p = pr at *
  generalize holdsT xs p = ho at *
  generalize getT xs p = gn at *
  obtain ⟨m, hm⟩ : ∃ m, xs.length = m := ⟨_, rfl⟩
  rw [hm] at HA HLE hn
  have HM := Lib.hid hm; clear hm
  obtain ⟨kd, md, tm, dt⟩ := n
  unfold Nd.c at *
  simp only at HR HND H0 HA
  obtain ⟨gk, gm, gt, gd⟩ := gn
  simp only at HGE HA
  clear hin hp hu
  go_enter Tryz.func49, Tryz.ntmps49
  go_wp2_with fail
  refine HR.out.mono ?_
  rintro e w1 ⟨rfl, hb1⟩
  have hbw := H0.out.1.trans (hb1.mono H0.out.1.size)
  have hB := H0.out.2.1.below hb1 H0.out.2.1.lt
  have H1 := Lib.hid (And.intro hbw (And.intro hB (H0.out.2.2.below hb1))); clear hbw hB hb1 H0 HR
  have x0 := H1.out.2.1.cell 0
  have x1 := H1.out.2.1.cell 1
  have x2 := H1.out.2.1.cell 2
  have x3 := H1.out.2.1.cell 3
  simp at x0 x1 x2 x3
  cases br with
  | false =>
    go_wp2_with fail
    go_ret
    exact ⟨by rw [show ans = 5 from by simpa using HA.out]; rfl, H1.out.1⟩
  | true =>
    by_cases k0 : kd = 0
    · subst k0
      go_wp2_with fail
      go_ret
      exact ⟨by rw [show ans = 1 from by simpa using HA.out]; rfl, H1.out.1⟩
    · have e0 : (kd == 0) = false := by rw [beq_eq_false_iff_ne]; exact k0
      have HN := Lib.hid (HND.out w1 k0)
      have HK := Lib.hid k0; clear k0
      go_wp2_with fail
      refine HN.out.mono ?_
      rintro e w2 ⟨rfl, hb2⟩
      have hbw := H1.out.1.trans (hb2.mono H1.out.1.size)
      have hB := H1.out.2.1.below hb2 H1.out.2.1.lt
      have H2 := Lib.hid (And.intro hbw (And.intro hB (H1.out.2.2.below hb2))); clear hbw hB hb2 H1 HN x0 x1 x2 x3
      have x0 := H2.out.2.1.cell 0
      simp at x0
      by_cases hnr : nr = 0
      · subst hnr
        have HP2 := Lib.hid (HPA.out w2 H2.out.2.2)
        go_wp2_with fail
        refine HP2.out.mono ?_
        rintro e w3 ⟨rfl, hb3⟩
        have hbw := H2.out.1.trans (hb3.mono H2.out.1.size)
        have hB := H2.out.2.1.below hb3 H2.out.2.1.lt
        have H3 := Lib.hid (And.intro hbw (And.intro hB (H2.out.2.2.below hb3))); clear hbw hB hb3 H2 HP2 x0
        have x0 := H3.out.2.1.cell 0
        simp at x0
        by_cases hpr : pr = 0
        · subst hpr
          have HFIN : Hid (∀ (w4 : World) (a : Act) (K : Act → World → Prop), True) := Lib.hid (fun _ _ _ => trivial)
          by_cases k2 : kd = 2
          · subst k2
            have HG4 := Lib.hid (HGE.out w3 H3.out.2.2)
            go_wp2_with fail
            refine HG4.out.mono ?_
            rintro e w5 ⟨rfl, hb5⟩
            have H5 := Lib.hid (And.intro (H3.out.1.trans (hb5.mono H3.out.1.size)) (H3.out.2.2.below hb5)); clear hb5 H3 HG4
            by_cases g0 : gk = 0
            · subst g0
              have HL5 := Lib.hid (HLE.out w5 H5.out.2)
              by_cases hl : (500 : Int) ≤ m
              all_goals
                go_wp2_with fail
                refine HL5.out.mono ?_
                rintro e w6 ⟨rfl, rfl⟩
                go_wp2_with fail
                go_ret
                refine ⟨?_, H5.out.1⟩
                first | (rw [show ans = 4 from by simpa [HK.out, show 500 ≤ m by omega] using HA.out]; rfl) | (rw [show ans = 0 from by simpa [HK.out, show ¬ 500 ≤ m by omega] using HA.out]; rfl)
            · have g1 : (gk == 0) = false := by rw [beq_eq_false_iff_ne]; exact g0
              have HG0 := Lib.hid g0; clear g0
              go_wp2_with fail
              go_ret
              refine ⟨?_, H5.out.1⟩
              rw [show ans = 0 from by simpa [HK.out, HG0.out] using HA.out]; rfl
          · have e2 : (kd == 2) = false := by rw [beq_eq_false_iff_ne]; exact k2
            have e2' : (kd != 2) = true := by rw [bne_iff_ne]; exact k2
            have HK2 := Lib.hid k2; clear k2
            have HH3 := Lib.hid (HHO.out w3 H3.out.2.2)
            go_wp2_with fail
            refine HH3.out.mono ?_
            rintro e w4 ⟨rfl, hb4⟩
            have H4 := Lib.hid (And.intro (H3.out.1.trans (hb4.mono H3.out.1.size)) (H3.out.2.2.below hb4)); clear hb4 H3 HH3 x0
            cases ho with
            | true =>
              go_wp2_with fail
              go_ret
              refine ⟨?_, H4.out.1⟩
              rw [show ans = 8 from by simpa [HK.out, HK2.out] using HA.out]; rfl
            | false =>
              have HG4 := Lib.hid (HGE.out w4 H4.out.2)
              go_wp2_with fail
              refine HG4.out.mono ?_
              rintro e w5 ⟨rfl, hb5⟩
              have H5 := Lib.hid (And.intro (H4.out.1.trans (hb5.mono H4.out.1.size)) (H4.out.2.below hb5)); clear hb5 H4 HG4
              by_cases g0 : gk = 0
              · subst g0
                have HL5 := Lib.hid (HLE.out w5 H5.out.2)
                by_cases hl : (500 : Int) ≤ m
                all_goals
                  go_wp2_with fail
                  refine HL5.out.mono ?_
                  rintro e w6 ⟨rfl, rfl⟩
                  go_wp2_with fail
                  go_ret
                  refine ⟨?_, H5.out.1⟩
                  first | (rw [show ans = 4 from by simpa [HK.out, HK2.out, show 500 ≤ m by omega] using HA.out]; rfl) | (rw [show ans = 0 from by simpa [HK.out, HK2.out, show ¬ 500 ≤ m by omega] using HA.out]; rfl)
              · have g1 : (gk == 0) = false := by rw [beq_eq_false_iff_ne]; exact g0
                have HG0 := Lib.hid g0; clear g0
                go_wp2_with fail
                go_ret
                refine ⟨?_, H5.out.1⟩
                rw [show ans = 0 from by simpa [HK.out, HG0.out] using HA.out]; rfl
        · have p0 : (pr == 0) = false := by rw [beq_eq_false_iff_ne]; exact hpr
          have p1 : (pr != 0) = true := by rw [bne_iff_ne]; exact hpr
          have HPR := Lib.hid hpr; clear hpr
          go_wp2_with fail
          go_ret
          exact ⟨by rw [show ans = pr from by simpa [HK.out, HPR.out] using HA.out]; rfl, H3.out.1⟩
      · have p0 : (nr == 0) = false := by rw [beq_eq_false_iff_ne]; exact hnr
        have p1 : (nr != 0) = true := by rw [bne_iff_ne]; exact hnr
        have HNR := Lib.hid hnr; clear hnr
        go_wp2_with fail
        go_ret
        exact ⟨by rw [show ans = nr from by simpa [HK.out, HNR.out] using HA.out]; rfl, H2.out.1⟩
set_option maxRecDepth 100000 in
set_option maxHeartbeats 4000000 in
theorem treePut_any (w : World) (bt bm : Nat) (xs : List NE) (p : ByteArray) (n : Nd) (h : TreeAt w bt bm xs) (hn : xs.length + 1 ≤ 1000000) (hp : p.size ≤ 90000) (hu : (parentS p).size ≤ 90000) (hin : NdIn n) :
    Calls Tryz.prog 24 #[.pointer (some ⟨bt, 0, none⟩), .string p, .agg n.c] w fun e w' => e = .returned (.int .i64 (mayT xs p n)) ∧ TreeAt w' bt bm (putT xs p n) ∧ w.grownBy w' (some bm) := by
  have hb0 := (Below.refl w.heap.size w).alloc (Nat.le_refl _) (.cells n.c 57)
  have hT0 := h.below hb0
  have HMY := Lib.hid (treeMay_any _ bt bm xs p n hT0 (by omega) hp hu hin)
  have HPU := Lib.hid (fun W (h : SMapSN W bm xs) => srtPutSN_any W bm xs p n h hn hp)
  have H0 := Lib.hid (And.intro hb0 (And.intro (Blk.new w 57 n.c) hT0)); clear hb0 hT0 h
  have HPT := Lib.hid (show putT xs p n = if mayT xs p n = 0 then putN ordS p n xs else xs from rfl)
  generalize mayT xs p n = ans at *
  generalize putT xs p n = zs at *
  generalize inN ordS p xs = bi at *
  obtain ⟨kd, md, tm, dt⟩ := n
  unfold Nd.c at *
  simp only at HMY HPU H0
  clear hin hp hu
  go_enter Tryz.func24, Tryz.ntmps24
  have x0 := H0.out.2.1.cell 0
  go_wp2_with fail
  refine HMY.out.mono ?_
  rintro e w1 ⟨rfl, hb1⟩
  have hbw := H0.out.1.trans (hb1.mono H0.out.1.size)
  have hB := H0.out.2.1.below hb1 H0.out.2.1.lt
  have H1 := Lib.hid (And.intro hbw (And.intro hB (H0.out.2.2.below hb1))); clear hbw hB hb1 H0 HMY x0
  by_cases ha : ans = 0
  · subst ha
    have x0 := H1.out.2.1.cell 0
    have x1 := H1.out.2.1.cell 1
    have x2 := H1.out.2.1.cell 2
    have x3 := H1.out.2.1.cell 3
    have q0 := H1.out.2.2.box.cell 0
    simp at x0 x1 x2 x3 q0
    go_wp2_with fail
    go_still_tail 6, (by kernel_rfl)
    go_wp2_with fail
    have hT1 := H1.out.2.2.below ((Below.refl w1.heap.size w1).drew)
    refine (HPU.out w1.drew hT1.map).mono ?_
    rintro e w2 ⟨rfl, hm2, hg2⟩
    have HF := Lib.hid (And.intro (hT1.grown hm2 hg2) (grown_trans (grown_below (row := some bm) (H1.out.1.drew)) hg2))
    clear hm2 hg2 hT1 x0 x1 x2 x3 q0
    go_wp2_with fail
    go_ret
    exact ⟨rfl, by have := HPT.out; simp at this; rw [this]; exact HF.out.1, HF.out.2⟩
  · have a0 : (ans == 0) = false := by rw [beq_eq_false_iff_ne]; exact ha
    have HA := Lib.hid ha; clear ha
    go_wp2_with fail
    go_ret
    exact ⟨rfl, by have := HPT.out; simp [HA.out] at this; rw [this]; exact H1.out.2.2, grown_below H1.out.1⟩
end Go.Proofs.YtnpehjgnplaabaaGreatDoor
/- The contract of the reference's Before. -/
set_option linter.unusedVariables false
set_option linter.unusedSimpArgs false
namespace Go.Proofs.YtnpehjgnplaabaaGreatDoor
open Go Go.RowKit
open Sw
open Go.Lib (compareBytes)
end Go.Proofs.YtnpehjgnplaabaaGreatDoor
/- Several texts, joined for the limit of sixty files; each one opens with its own comment. -/
/- The reference's rows of items: Get, Under, Holds. -/
set_option linter.unusedVariables false
set_option linter.unusedSimpArgs false
namespace Sw
open Go
end Sw
namespace Go.Proofs.YtnpehjgnplaabaaGreatDoor
open Go Go.RowKit
open Sw
theorem infoIt : (Tryz.prog.info? 59).map (fun i => (i.zero, i.size, i.bytes)) = some (some (.agg #[.string ⟨#[]⟩, .int .i64 0, .int .i64 0, .int .u32 0, .string ⟨#[]⟩]), 5, 56) := by kernel_rfl
/-- a row of items of the call's own -/
def OwnIt (w : World) (base : Nat) (u : Value) (l : List NE) : Prop := w.ownsRow base 59 5 u l.length (l.flatMap eCSN)
theorem OwnIt.slv {w : World} {base : Nat} {u : Value} {l : List NE} (h : OwnIt w base u l) : SlV w 5 eCSN u l := SlV.of_own h eCSN_len (by decide)
theorem OwnIt.below {w w' : World} {base : Nat} {u : Value} {l : List NE} (h : OwnIt w base u l) (hb : Below w.heap.size w w') : OwnIt w' base u l := own_kept h hb
theorem OwnIt.zero {w : World} {b : Nat} {u : Value} {l : List NE} (h : OwnIt w b u l) : OwnIt w 0 u l := own_wide h (Nat.zero_le _)
theorem str_eq (a b : ByteArray) : (a.toList == b.toList) = decide (a = b) := by
  rw [Bool.eq_iff_iff, beq_iff_eq, decide_eq_true_eq, ByteArray.toList_eq, ByteArray.toList_eq]
  exact ⟨dat_inj, fun e => by rw [e]⟩
end Go.Proofs.YtnpehjgnplaabaaGreatDoor
/- The law's Light: are the steps few and small? -/
set_option linter.unusedVariables false
set_option linter.unusedSimpArgs false
namespace Go.Proofs.YtnpehjgnplaabaaGreatDoor
open Go Go.RowKit
open Sw
end Go.Proofs.YtnpehjgnplaabaaGreatDoor
/- Arguments that are rows of items, opened. -/
set_option linter.unusedVariables false
namespace Go.Proofs.YtnpehjgnplaabaaGreatDoor
open Go Go.ChangeShapes Go.WideShapes Go.ChangeAt Go.RowKit
open Sw
/-- an item that came in -/
def NEIn (e : NE) : Prop := e.1.size ≤ maxLen ∧ NdIn e.2
set_option maxRecDepth 100000 in
theorem dec_nodeI {H : Type} {enc : TypeId × Value → H} {w : World} (fuel : Nat) (cs : List Value) (x : DataW H × List MemPlace) (h : DataW.trod enc Tryz.prog w 0 (fun _ => true) true fuel 57 cs = some x) :
    ∃ n : Nd, cs = [.int .i64 n.kind, .int .i64 n.mode, .int .u32 n.time, .string n.data] ∧ NdIn n := by
  obtain ⟨hl, hff⟩ := dec_fields Tryz.underlying57 (by kernel_rfl) (by kernel_rfl) h
  match cs, hl with
  | [c0, c1, c2, c3], _ =>
    obtain ⟨v0, n0, y0, e0, h0⟩ := hff 0 _ rfl
    obtain ⟨v1, n1, y1, e1, h1⟩ := hff 1 _ rfl
    obtain ⟨v2, n2, y2, e2, h2⟩ := hff 2 _ rfl
    obtain ⟨v3, n3, y3, e3, h3⟩ := hff 3 _ rfl
    simp at e0 e1 e2 e3
    subst e0 e1 e2 e3
    obtain ⟨k0, ek0, _, _⟩ := DataW.trod_int Tryz.underlying3 h0
    obtain ⟨k1, ek1, _, _⟩ := DataW.trod_int Tryz.underlying3 h1
    obtain ⟨k2, ek2, _, wk⟩ := DataW.trod_int Tryz.underlying51 h2
    obtain ⟨s, hs, _, hl⟩ := DataW.trod_string Tryz.underlying9 h3
    obtain ⟨b0, b1⟩ := bounds_u32 wk
    simp at ek0 ek1 ek2 hs
    subst ek0 ek1 ek2 hs
    exact ⟨⟨k0, k1, k2, s⟩, rfl, b0, by show k2 < 4294967296; omega, hl⟩
set_option maxRecDepth 100000 in
theorem dec_item {H : Type} {enc : TypeId × Value → H} {w : World} (fuel : Nat) (cs : List Value) (x : DataW H × List MemPlace) (h : DataW.trod enc Tryz.prog w 0 (fun _ => true) true fuel 59 cs = some x) :
    ∃ e : NE, cs = eCSN e ∧ NEIn e := by
  obtain ⟨y0, y1, n, _, hl, h0, h1⟩ := trod_struct2 Tryz.underlying59 h
  have hl5 : cs.length = 5 := hl.trans (by kernel_rfl)
  match cs, hl5 with
  | [c0, c1, c2, c3, c4], _ =>
    rw [show Tryz.prog.cellsOf 9 = 1 by kernel_rfl] at h0
    rw [show Tryz.prog.cellsOf 57 = 4 by kernel_rfl] at h1
    simp only [List.drop_zero, List.drop_succ_cons, List.take_succ_cons, List.take_zero] at h0 h1
    obtain ⟨s, hs, _, hsz⟩ := DataW.trod_string Tryz.underlying9 h0
    simp at hs
    subst hs
    obtain ⟨m, hm, hin⟩ := dec_nodeI _ _ _ h1
    simp at hm
    obtain ⟨rfl, rfl, rfl, rfl⟩ := hm
    exact ⟨(s, m), rfl, hsz, hin⟩
end Go.Proofs.YtnpehjgnplaabaaGreatDoor
/- A slice inside of what was read, by a decoder of its elements. -/
set_option linter.unusedVariables false
namespace Go.Proofs.YtnpehjgnplaabaaGreatDoor
open Go Go.ChangeShapes Go.WideShapes Go.ChangeAt Go.RowKit
open Sw
section
open Go.Deep
variable {H : Type} {enc : TypeId × Value → H} {P : Program} {w : World}
end
end Go.Proofs.YtnpehjgnplaabaaGreatDoor
/- Plain laws of layer 2: the sum's steps on numbers. No program in sight. -/
set_option linter.unusedVariables false
namespace Sw
def poly : Nat := 3988292384
/-- one bit's step -/
def stp (x : Nat) : Nat := if x % 2 = 1 then (x / 2) ^^^ poly else x / 2
def stpN : Nat → Nat → Nat
  | 0, x => x
  | k + 1, x => stp (stpN k x)
/-- the state behind a byte -/
@[irreducible] def byteS (s b : Nat) : Nat := stpN 8 (s ^^^ b)
theorem byteS_def (s b : Nat) : byteS s b = stpN 8 (s ^^^ b) := by unfold byteS; rfl
/-- the state behind a text -/
def feedS : Nat → List UInt8 → Nat
  | s, [] => s
  | s, b :: l => feedS (byteS s b.toNat) l
/-- the sum of a text -/
def ofS (l : List UInt8) : Nat := 4294967295 - feedS 4294967295 l
theorem poly_lt : poly < 2 ^ 32 := by decide
theorem stp_lt (x : Nat) (h : x < 2 ^ 32) : stp x < 2 ^ 32 := by
  unfold stp
  split
  · exact Nat.xor_lt_two_pow (by omega) poly_lt
  · omega
theorem stpN_lt (k x : Nat) (h : x < 2 ^ 32) : stpN k x < 2 ^ 32 := by
  induction k with
  | zero => exact h
  | succ k ih => exact stp_lt _ ih
theorem byteS_lt (s b : Nat) (hs : s < 2 ^ 32) (hb : b < 2 ^ 32) : byteS s b < 2 ^ 32 := by rw [byteS_def]; exact stpN_lt _ _ (Nat.xor_lt_two_pow hs hb)
theorem feedS_lt (l : List UInt8) : ∀ (s : Nat), s < 2 ^ 32 → feedS s l < 2 ^ 32 := by
  induction l with
  | nil => intro s h; exact h
  | cons b l ih =>
    intro s h
    have h1 := byteS_lt s b.toNat h (Nat.lt_trans b.toNat_lt (by decide))
    have h2 := ih _ h1
    rw [feedS]
    exact h2
theorem feedS_append (s : Nat) (l m : List UInt8) : feedS s (l ++ m) = feedS (feedS s l) m := by
  induction l generalizing s with
  | nil => rfl
  | cons b l ih => rw [List.cons_append, feedS, ih, feedS]
theorem feedS_cons (s : Nat) (b : UInt8) (m : List UInt8) : feedS s (b :: m) = feedS (byteS s b.toNat) m := by rw [feedS]
theorem xor_mod2 (a b : Nat) : (a ^^^ b) % 2 = (a % 2) ^^^ (b % 2) := by
  have h := Nat.xor_mod_two_pow (a := a) (b := b) (n := 1)
  rw [Nat.pow_one] at h
  exact h
theorem xor_div2 (a b : Nat) : (a ^^^ b) / 2 = (a / 2) ^^^ (b / 2) := by
  have := Nat.shiftRight_xor_distrib (i := 1) (a := a) (b := b)
  simpa [Nat.shiftRight_eq_div_pow] using this
theorem stp_xor (a b : Nat) : stp (a ^^^ b) = stp a ^^^ stp b := by
  unfold stp
  rw [xor_mod2, xor_div2]
  have ha : a % 2 = 0 ∨ a % 2 = 1 := by omega
  have hb : b % 2 = 0 ∨ b % 2 = 1 := by omega
  rcases ha with ha | ha <;> rcases hb with hb | hb <;> rw [ha, hb] <;> simp
  · rw [Nat.xor_assoc]
  · rw [Nat.xor_assoc, Nat.xor_assoc, Nat.xor_comm poly (b / 2)]
  · rw [Nat.xor_assoc, ← Nat.xor_assoc poly, Nat.xor_comm poly (b / 2), Nat.xor_assoc, Nat.xor_self, Nat.xor_zero]
theorem stpN_xor (k a b : Nat) : stpN k (a ^^^ b) = stpN k a ^^^ stpN k b := by
  induction k with
  | zero => rfl
  | succ k ih => rw [stpN, stpN, stpN, ih, stp_xor]
/-- a number that is a multiple of 2^k is only shifted -/
theorem stpN_shift (k h : Nat) : stpN k (2 ^ k * h) = h := by
  induction k generalizing h with
  | zero => simp [stpN]
  | succ k ih =>
    have e : 2 ^ (k + 1) * h = 2 ^ k * (2 * h) := by rw [Nat.pow_succ, Nat.mul_assoc]
    rw [stpN, e, ih (2 * h)]
    unfold stp
    rw [if_neg (by omega)]
    omega
theorem xor_hi_lo (x : Nat) : (2 ^ 8 * (x / 256)) ^^^ (x % 256) = x := by
  have h := Nat.two_pow_add_eq_or_of_lt (i := 8) (b := x % 256) (by omega) (x / 256)
  have h2 : 2 ^ 8 * (x / 256) ^^^ x % 256 = 2 ^ 8 * (x / 256) + x % 256 := by
    have e := Nat.two_pow_add_eq_or_of_lt (i := 8) (b := x % 256) (by omega) (x / 256)
    rw [e]
    apply Nat.eq_of_testBit_eq
    intro i
    rw [Nat.testBit_xor, Nat.testBit_or, Nat.testBit_two_pow_mul]
    by_cases hi : 8 ≤ i
    · have : (x % 256).testBit i = false := Nat.testBit_lt_two_pow (Nat.lt_of_lt_of_le (Nat.mod_lt x (by omega)) (by
        calc 256 = 2 ^ 8 := rfl
          _ ≤ 2 ^ i := Nat.pow_le_pow_right (by omega) hi))
      simp [this]
    · simp [hi]
  omega
/-- the table's step is the byte's -/
theorem table_step (s b : Nat) (hb : b < 256) : stpN 8 ((s ^^^ b) % 256) ^^^ (s / 256) = byteS s b := by
  have e := xor_hi_lo (s ^^^ b)
  have hd : (s ^^^ b) / 256 = s / 256 := by
    have h := Nat.shiftRight_xor_distrib (i := 8) (a := s) (b := b)
    simp [Nat.shiftRight_eq_div_pow] at h
    have h0 : b / 256 = 0 := by omega
    rw [h, h0, Nat.xor_zero]
  rw [byteS_def, ← e, stpN_xor, stpN_shift, hd, Nat.xor_comm]
  congr 1
  have h2 : ((2 ^ 8 * (s / 256) ^^^ (s ^^^ b) % 256)) % 256 = (s ^^^ b) % 256 := by rw [← hd, e]
  rw [h2]
theorem not_xor (x : Nat) (h : x < 2 ^ 32) : 4294967295 - x = x ^^^ 4294967295 := by
  have e : 2 ^ 32 - (x + 1) = x ^^^ (2 ^ 32 - 1) := by
    apply Nat.eq_of_testBit_eq
    intro i
    rw [Nat.testBit_two_pow_sub_succ h, Nat.testBit_xor, Nat.testBit_two_pow_sub_one]
    by_cases hi : i < 32
    · simp [hi]
    · have : x.testBit i = false := Nat.testBit_lt_two_pow (Nat.lt_of_lt_of_le h (Nat.pow_le_pow_right (by omega) (by omega)))
      simp [hi, this]
  have e2 : 2 ^ 32 - 1 = 4294967295 := rfl
  rw [e2] at e
  omega
end Sw

/- The contract of sum.Made: the table of the states behind all bytes. -/
set_option linter.unusedVariables false
namespace Go.Proofs.YtnpehjgnplaabaaGreatDoor
open Go.RowKit
open Sw
/-- a row of cells is the table -/
def IsTab (cs : Array Value) : Prop := cs.size = 256 ∧ ∀ i, i < 256 → cs[i]? = some (.int .u32 (stpN 8 i : Nat))
theorem info_tab : ∃ v : Array Value, (Tryz.prog.info? 237).map (fun i => (i.zero, i.size)) = some (some (.agg v), 256) ∧ v.size = 256 := ⟨Array.replicate 256 (.int .u32 0), by kernel_rfl, by kernel_rfl⟩
theorem stp_walk_odd (x : Nat) (hx : x < 4294967296) (h : x % 2 = 1) : bits .xor .u32 ((x : Int) / 2) 3988292384 = (stp x : Nat) := by
  have e : ((x : Int) / 2) = ((x / 2 : Nat) : Int) := by omega
  rw [e]
  have := u32_xor_nat (x / 2) 3988292384 (by omega) (by omega)
  rw [stp, if_pos h, poly]
  exact this
theorem stp_walk_even (x : Nat) (h : ¬ x % 2 = 1) : (x : Int) / 2 = (stp x : Nat) := by
  rw [stp, if_neg h]; omega
theorem and_walk (x : Nat) (hx : x < 4294967296) : bits .and .u32 (x : Int) 1 = ((x % 2 : Nat) : Int) := by
  have := u32_and_nat x 1 hx (by omega)
  rw [Nat.and_one_is_mod] at this
  exact this
set_option maxRecDepth 100000 in
set_option maxHeartbeats 1000000 in
theorem made_any (w : World) : Calls Tryz.prog 178 #[] w fun e w' => ∃ cs, e = .returned (.agg cs) ∧ IsTab cs ∧ Below w.heap.size w w' := by
  obtain ⟨v, hv, hvs⟩ := info_tab
  obtain ⟨hz, hzi⟩ := zero_of_info hv
  have HV := Lib.hid hvs; clear hvs
  have HZI := Lib.hid hzi; clear hzi hv
  go_enter Tryz.func178, Tryz.ntmps178
  go_wp2
  clear hz
  go_loopw [1, 2, 3] (fun _ _ t wr => ∃ k : Nat, k ≤ 256 ∧ t = .int .i64 k ∧ (∃ cs : Array Value, Blk wr w.heap.size 237 cs ∧ cs.size = 256 ∧ ∀ i, i < k → cs[i]? = some (.int .u32 (stpN 8 i : Nat))) ∧ Below w.heap.size w wr) (fun _ _ t _ => 256 - (intOf t).toNat)
  case atStart => exact ⟨0, Nat.zero_le _, rfl, ⟨_, Blk.new _ _ _, HV.out, fun i hi => by omega⟩, (Below.refl _ _).alloc (Nat.le_refl _) _⟩
  case round =>
    obtain ⟨k, hk, rfl, ⟨cs, hcs, hsz, hat⟩, hb⟩ := hrel
    by_cases hlt : k < 256
    · have hf := Blk.frozen hcs k
      have hc : wr.cell? ⟨w.heap.size, k, none⟩ = some (cs[k]'(by omega)) := by rw [Blk.cell hcs k]; exact Array.getElem?_eq_getElem (by omega)
      generalize cs[k]'(by omega) = old at hc
      have HAT := Lib.hid hat; clear hat
      have HSZ := Lib.hid hsz; clear hsz
      go_wp2
      go_loop [2, 8] (fun x t => ∃ j : Nat, j ≤ 8 ∧ t = .int .i64 j ∧ x = .int .u32 (stpN j k : Nat)) (fun _ t => 8 - (intOf t).toNat)
      case atStart => exact ⟨0, Nat.zero_le _, rfl, rfl⟩
      case round =>
        obtain ⟨j, hj, rfl, rfl⟩ := hrel
        by_cases hjl : j < 8
        · have hx := stpN_lt j k (by omega)
          have ha := and_walk (stpN j k) hx
          by_cases ho : stpN j k % 2 = 1
          · have hst := stp_walk_odd (stpN j k) hx ho
            rw [ho] at ha
            have HST := Lib.hid hst; clear hst ho hx
            go_wp2
            exact ⟨⟨j + 1, by omega, by go_num, by rw [HST.out, stpN]⟩, by simp [intOf]; omega⟩
          · have hst := stp_walk_even (stpN j k) ho
            have ho' : stpN j k % 2 = 0 := by omega
            rw [ho'] at ha
            have HST := Lib.hid hst; clear hst ho hx ho'
            go_wp2
            exact ⟨⟨j + 1, by omega, by go_num, by rw [HST.out, stpN]⟩, by simp [intOf]; omega⟩
        · obtain rfl : j = 8 := by omega
          go_wp2
          go_roundw
          case rel =>
            refine ⟨k + 1, by omega, by go_num, ⟨_, Blk.put hcs k _, by simpa using HSZ.out, fun i hi => ?_⟩, hb.setCell (Nat.le_refl _) _⟩
            rw [Array.getElem?_setIfInBounds]
            by_cases hik : k = i
            · subst hik
              rw [if_pos rfl, if_pos (by have := HSZ.out; omega)]
            · rw [if_neg hik]
              exact HAT.out i (by omega)
          case measure => simp [intOf]; omega
    · obtain rfl : k = 256 := by omega
      have hi : (Tryz.prog.info? 237).map (·.size) = some cs.size := by rw [hsz]; exact HZI.out
      have HI := Lib.hid hi; clear hi
      have HAT := Lib.hid hat; clear hat
      have HSZ := Lib.hid hsz; clear hsz
      have hone : cs.all (·.oneCell') = true := by
        rw [Array.all_eq_true]
        intro i hi
        have h := HAT.out i (by have := HSZ.out; omega)
        rw [Array.getElem?_eq_getElem hi] at h
        injection h with h
        rw [h]; rfl
      have HO := Lib.hid hone; clear hone
      go_wp2_with (first | (refine wpList_load_row rfl 237 _ rfl w.heap.size rfl 237 cs (0, 0) _ hcs Tryz.underlying237 rfl HI.out ?_) | (refine wpList_store_row rfl 237 _ _ rfl w.heap.size cs rfl rfl 237 cs hcs HI.out rfl HO.out ?_))
      refine bodyPost_ret (results_cell_row rfl _ _ w.heap.size 237 cs (0, 0) _ rfl (setRow_heap wr w.heap.size cs cs _ _ hcs) Tryz.underlying237 rfl HI.out) rfl ⟨cs, rfl, ⟨HSZ.out, HAT.out⟩, hb.trans ?_⟩
      exact ⟨rfl, rfl, rfl, by simp, fun i hi => setRow_other wr w.heap.size i cs (by omega)⟩
end Go.Proofs.YtnpehjgnplaabaaGreatDoor
