/- Several texts, joined for the limit of sixty files; each one opens with its own comment. -/
import Derived.Test.YthnnnlbdbkdcaaaDoorJoin12
import Derived.Test.YthnnnlbdbkdcaaaDoorJoin16
import Derived.Test.YthnnnlbdbkdcaaaDoorJoin17
import Derived.StillTailTactics
/- tree.New, Get, Len, parent. -/
set_option linter.unusedVariables false
set_option linter.unusedSimpArgs false
namespace Go.Proofs.YthnnnlbdbkdcaaaDoor
open Go Go.RowKit
open Sw
theorem nodeField0 (w : World) (a b c d : Value) : (Instr.field 30 (.agg #[a, b, c, d]) 0).run Tryd.prog w = .ok a w := by kernel_rfl
theorem nodeField3 (w : World) (a b c d : Value) : (Instr.field 30 (.agg #[a, b, c, d]) 3).run Tryd.prog w = .ok d w := by kernel_rfl
/-- the tree in block bt, whose map is in block bm, holds the entries xs -/
structure TreeAt (w : World) (bt bm : Nat) (xs : List NE) : Prop where
  box : Blk w bt 54 #[.pointer (some ⟨bm, 0, none⟩)]
  map : SMapSN w bm xs
section
variable {w w' : World} {bt bm : Nat} {xs : List NE}
theorem TreeAt.below (h : TreeAt w bt bm xs) (hb : Below w.heap.size w w') : TreeAt w' bt bm xs := ⟨h.box.below hb h.box.lt, h.map.below hb⟩
theorem TreeAt.ne (h : TreeAt w bt bm xs) : bt ≠ bm := by
  obtain ⟨v, hb, _⟩ := h.map.row
  exact fun e => by subst e; exact Blk.other h.box hb (by decide) rfl
theorem TreeAt.grown (h : TreeAt w bt bm xs) {ys : List NE} (hm : SMapSN w' bm ys) (hg : w.grownBy w' (some bm)) : TreeAt w' bt bm ys := ⟨h.box.grown hg (by simpa using h.ne), hm⟩
theorem TreeAt.ok (h : TreeAt w bt bm xs) {p : ByteArray} {n : Nd} (hm : (p, n) ∈ xs) : p.size ≤ 90000 := h.map.ok _ hm
end
set_option maxRecDepth 100000 in
theorem treeNew_any (w : World) :
    Calls Tryd.prog 5 #[] w fun e w' => ∃ bt bm, e = .returned (.pointer (some ⟨bt, 0, none⟩)) ∧ TreeAt w' bt bm [] ∧ w.heap.size ≤ bt ∧ w.heap.size ≤ bm ∧ Below w.heap.size w w' := by
  have HN := Lib.hid (srtNewSN_any w)
  go_enter Tryd.func5, Tryd.ntmps5
  go_wp2_with fail
  refine HN.out.mono ?_
  rintro e w1 ⟨bm, rfl, hm, hbm, hb1⟩
  have hba := (Below.refl w1.heap.size w1).alloc (Nat.le_refl _) (.cells #[.pointer (some ⟨bm, 0, none⟩)] 54)
  have HF := Lib.hid (And.intro (Blk.new w1 54 #[.pointer (some ⟨bm, 0, none⟩)]) (And.intro (hm.below hba) (hb1.trans (hba.mono hb1.size))))
  have hsz := hb1.size
  clear hm hb1 hba
  go_wp2_with fail
  go_ret
  exact ⟨_, bm, rfl, ⟨HF.out.1, HF.out.2.1⟩, hsz, hbm, HF.out.2.2⟩
set_option maxRecDepth 100000 in
theorem treeLen_any (w : World) (bt bm : Nat) (xs : List NE) (h : TreeAt w bt bm xs) :
    Calls Tryd.prog 8 #[.pointer (some ⟨bt, 0, none⟩)] w fun e w' => e = .returned (.int .i64 xs.length) ∧ w = w' := by
  have HL := Lib.hid (srtLenSN_any w bm xs h.map)
  have c0 := h.box.cell 0
  simp at c0
  clear h
  go_enter Tryd.func8, Tryd.ntmps8
  go_wp2_with fail
  refine HL.out.mono ?_
  rintro e w1 ⟨rfl, rfl⟩
  go_wp2_with fail
  go_ret
  exact ⟨rfl, rfl⟩
set_option maxRecDepth 100000 in
set_option maxHeartbeats 4000000 in
theorem treeGet_any (w : World) (bt bm : Nat) (xs : List NE) (p : ByteArray) (h : TreeAt w bt bm xs) (hn : xs.length ≤ 1000000) (hp : p.size ≤ 90000) :
    Calls Tryd.prog 9 #[.pointer (some ⟨bt, 0, none⟩), .string p] w fun e w' => e = .returned (.agg (getT xs p).c) ∧ Below w.heap.size w w' := by
  have hb0 := (Below.refl w.heap.size w).alloc (Nat.le_refl _) (.cells #[.int .i64 0, .int .i64 0, .int .u32 0, .string ⟨#[]⟩] 30)
  have hB0 := Blk.new w 30 #[.int .i64 0, .int .i64 0, .int .u32 0, .string ⟨#[]⟩]
  have hT := h.below hb0
  have HG := Lib.hid (srtGetSN_any _ bm xs p hT.map hn hp)
  have c0 := hT.box.cell 0
  simp at c0
  have H0 := Lib.hid (And.intro hb0 hB0); clear hb0 hB0 hT h
  obtain ⟨n, hn2⟩ : ∃ n, getT xs p = n := ⟨_, rfl⟩
  have hg2 : (getN ordS p xs).getD (⟨0, 0, 0, ⟨#[]⟩⟩ : Nd) = n := hn2
  rw [hg2] at HG
  rw [hn2]
  generalize inN ordS p xs = bi at *
  obtain ⟨kd, md, tm, dt⟩ := n
  unfold Nd.c at *
  simp only at HG ⊢
  clear hn2 hg2
  go_enter Tryd.func9, Tryd.ntmps9
  go_wp2_with fail
  refine HG.out.mono ?_
  rintro e w1 ⟨rfl, hb1⟩
  have hba := (Below.refl w1.heap.size w1).alloc (Nat.le_refl _) (.cells #[.int .i64 kd, .int .i64 md, .int .u32 tm, .string dt] 30)
  have hB1 := (H0.out.2.below hb1 H0.out.2.lt).below hba (Nat.lt_of_lt_of_le H0.out.2.lt hb1.size)
  have hbw := (H0.out.1.trans (hb1.mono H0.out.1.size)).trans (hba.mono (H0.out.1.trans (hb1.mono H0.out.1.size)).size)
  have x0 := hB1.cell 0
  have x1 := hB1.cell 1
  have x2 := hB1.cell 2
  have x3 := hB1.cell 3
  have f0 := hB1.frozen 0
  have f1 := hB1.frozen 1
  have f2 := hB1.frozen 2
  have f3 := hB1.frozen 3
  simp at x0 x1 x2 x3
  have HF := Lib.hid (And.intro hB1 hbw); clear hB1 hbw hb1 hba
  go_wp2_with fail
  refine bodyPost_ret (v := .agg #[.int .i64 kd, .int .i64 md, .int .u32 tm, .string dt]) (results_cell_row rfl _ _ w.heap.size 30 #[.int .i64 kd, .int .i64 md, .int .u32 tm, .string dt] (0, 0) _ rfl ((((HF.out.1.put 0 (.int .i64 kd)).put 1 (.int .i64 md)).put 2 (.int .u32 tm)).put 3 (.string dt)) Tryd.underlying30 rfl infoVSN) rfl ⟨rfl, ?_⟩
  exact (((HF.out.2.setCell (p := ⟨w.heap.size, 0, none⟩) (Nat.le_refl _) (.int .i64 kd)).setCell (p := ⟨w.heap.size, 1, none⟩) (Nat.le_refl _) (.int .i64 md)).setCell (p := ⟨w.heap.size, 2, none⟩) (Nat.le_refl _) (.int .u32 tm)).setCell (p := ⟨w.heap.size, 3, none⟩) (Nat.le_refl _) (.string dt)
set_option maxRecDepth 100000 in
set_option maxHeartbeats 4000000 in
theorem treeParent_any (w : World) (bt bm : Nat) (xs : List NE) (p : ByteArray) (h : TreeAt w bt bm xs) (hn : xs.length ≤ 1000000) (hp : p.size ≤ 90000) (hu : (parentS p).size ≤ 90000) :
    Calls Tryd.prog 43 #[.pointer (some ⟨bt, 0, none⟩), .string p] w fun e w' => e = .returned (.int .i64 (parentT xs p)) ∧ Below w.heap.size w w' := by
  have HP := Lib.hid (parent_any w p (by omega))
  have hfld := nodeField0
  have HH := Lib.hid h; clear h
  unfold parentT
  by_cases h0 : parentS p = ⟨#[]⟩
  · rw [if_pos h0]
    rw [h0] at HP
    clear h0 hu
    go_enter Tryd.func43, Tryd.ntmps43
    go_wp2_with fail
    refine HP.out.mono ?_
    rintro e w1 ⟨rfl, hb1⟩
    go_wp2_with fail
    go_ret
    exact ⟨rfl, hb1⟩
  · rw [if_neg h0]
    have s3 : (parentS p).toList.isEmpty = false := by
      rw [ByteArray.toList_eq]
      cases hl : (parentS p).data.toList with
      | nil => exact absurd (by cases hq : parentS p with | mk d => rw [hq] at hl; cases d with | mk l => simp at hl; subst hl; rfl) h0
      | cons a l => rfl
    have HG := Lib.hid (fun W (h : TreeAt W bt bm xs) => treeGet_any W bt bm xs (parentS p) h hn hu)
    generalize parentS p = u at *
    generalize getT xs u = n at *
    clear h0
    by_cases k0 : n.kind = 0
    · rw [if_pos k0]
      have t0 : (n.kind == 0) = true := by rw [beq_iff_eq]; exact k0
      obtain ⟨kd, md, tm, dt⟩ := n
      simp only at k0 t0
      unfold Nd.c at HG
      subst k0
      go_enter Tryd.func43, Tryd.ntmps43
      go_wp2_with fail
      refine HP.out.mono ?_
      rintro e w1 ⟨rfl, hb1⟩
      have HG1 := Lib.hid (HG.out w1 (HH.out.below hb1))
      have HB1 := Lib.hid hb1; clear hb1
      go_wp2_with fail
      refine HG1.out.mono ?_
      rintro e w2 ⟨rfl, hb2⟩
      have HB2 := Lib.hid (HB1.out.trans (hb2.mono HB1.out.size)); clear hb2
      go_wp2_with fail
      go_ret
      exact ⟨rfl, HB2.out⟩
    · rw [if_neg k0]
      have t0 : (n.kind == 0) = false := by rw [beq_eq_false_iff_ne]; exact k0
      by_cases k2 : n.kind = 2
      · rw [if_pos k2]
        obtain ⟨kd, md, tm, dt⟩ := n
        simp only at k0 t0 k2
        unfold Nd.c at HG
        subst k2
        clear k0
        go_enter Tryd.func43, Tryd.ntmps43
        go_wp2_with fail
        refine HP.out.mono ?_
        rintro e w1 ⟨rfl, hb1⟩
        have HG1 := Lib.hid (HG.out w1 (HH.out.below hb1))
        have HB1 := Lib.hid hb1; clear hb1
        go_wp2_with fail
        refine HG1.out.mono ?_
        rintro e w2 ⟨rfl, hb2⟩
        have HB2 := Lib.hid (HB1.out.trans (hb2.mono HB1.out.size)); clear hb2
        go_wp2_with fail
        go_ret
        exact ⟨rfl, HB2.out⟩
      · rw [if_neg k2]
        have t2 : (n.kind == 2) = false := by rw [beq_eq_false_iff_ne]; exact k2
        obtain ⟨kd, md, tm, dt⟩ := n
        simp only at k0 t0 k2 t2
        unfold Nd.c at HG
        clear k0 k2
        go_enter Tryd.func43, Tryd.ntmps43
        go_wp2_with fail
        refine HP.out.mono ?_
        rintro e w1 ⟨rfl, hb1⟩
        have HG1 := Lib.hid (HG.out w1 (HH.out.below hb1))
        have HB1 := Lib.hid hb1; clear hb1
        go_wp2_with fail
        refine HG1.out.mono ?_
        rintro e w2 ⟨rfl, hb2⟩
        have HB2 := Lib.hid (HB1.out.trans (hb2.mono HB1.out.size)); clear hb2
        go_wp2_with fail
        go_ret
        exact ⟨rfl, HB2.out⟩
end Go.Proofs.YthnnnlbdbkdcaaaDoor
/- tree.holds. -/
set_option linter.unusedVariables false
set_option linter.unusedSimpArgs false
namespace Go.Proofs.YthnnnlbdbkdcaaaDoor
open Go Go.RowKit Go.Shelf
open Sw
attribute [local go_sem] Oper.semAt_some
theorem res_cellT {P : Program} {fn : Func} {p : Tmp} {ty : TypeId} (h : fn.results = #[.cell p ty]) (tmps : Array Value) (w : World) (g : Nat) (t : TypeId) (v : Value)
    (hp : tmps.getD p undef = .pointer (some ⟨g, 0, none⟩)) (hg : Blk w g t #[v]) (hu : P.underlying ty = some .bool) : (results fn tmps).run P w = .ok v w := by
  have hp' : tmps[p]?.getD undef = .pointer (some ⟨g, 0, none⟩) := by simpa using hp
  have hc : w.cell? ⟨g, 0, none⟩ = some v := by have := hg.cell 0; simpa using this
  simp [results, h, hp', asAddr, loadVar, isAgg, run_underlying hu, run_load, hc]
/-- behind some words: all of them are of the path itself -/
def HoI (T : Nat) (p : ByteArray) (pre : List NE) (W : World) : Prop := (∀ e ∈ pre, e.1 = p) ∧ Blk W T 9 #[.string p] ∧ Blk W (T + 1) 4 #[.bool false]
def HoX (T : Nat) (p : ByteArray) (c : Code) (pre : List NE) (W : World) : Prop := ∃ (pre' : List NE) (x : NE), pre = pre' ++ [x] ∧ c = .ret ∧ (∀ e ∈ pre', e.1 = p) ∧ ¬ x.1 = p ∧ Blk W (T + 1) 4 #[.bool (inS (upsS x.1) p)]
theorem HoI.own (T : Nat) (p : ByteArray) : Own (HoI T p) := fun _ A B row hs hg hr => ⟨hs.1, blk_ownF hs.2.1 hg hr, blk_ownF hs.2.2 hg hr⟩
theorem HoX.own (T : Nat) (p : ByteArray) (c : Code) : Own (HoX T p c) := fun _ A B row hs hg hr => by
  obtain ⟨p', x, e1, e2, e3, e4, h⟩ := hs
  exact ⟨p', x, e1, e2, e3, e4, blk_ownF h hg hr⟩
theorem find_first {α : Type} {f : α → Bool} {ys pre : List α} {x : α} (hp : (pre ++ [x]) <+: ys) (h1 : ∀ e ∈ pre, f e = false) (h2 : f x = true) : ys.find? f = some x := by
  obtain ⟨r, rfl⟩ := hp
  rw [List.append_assoc, List.find?_append, List.find?_eq_none.2 (fun e he => by rw [h1 e he]; simp)]
  simp [h2]
set_option maxRecDepth 100000 in
set_option maxHeartbeats 4000000 in
theorem treeHolds_any (w : World) (bt bm : Nat) (xs : List NE) (p : ByteArray) (h : TreeAt w bt bm xs) (hn : xs.length ≤ 1000000) (hp : p.size ≤ 90000) :
    Calls Tryd.prog 29 #[.pointer (some ⟨bt, 0, none⟩), .string p] w fun e w' => e = .returned (.bool (holdsT xs p)) ∧ Below w.heap.size w w' := by
  have b0 := blk_fst w #[.string p] 9 (.cells #[.bool false] 4)
  have b1 := blk_snd w (.cells #[.string p] 9) #[.bool false] 4
  have hB : Below w.heap.size w ((w.alloc (.cells #[.string p] 9)).alloc (.cells #[.bool false] 4)) := ((Below.refl _ w).alloc (Nat.le_refl _) _).alloc (by simp) _
  have hz : ((w.alloc (.cells #[.string p] 9)).alloc (.cells #[.bool false] 4)).heap.size = w.heap.size + 1 + 1 := by simp
  have hT := h.below hB
  have hok : ∀ e ∈ xs, e.1.size ≤ 90000 := fun e he => h.map.ok e he
  clear h
  refine callsIn_wide.1 (?_ : CallsIn Fence.wide 9 _ _ _ _ _)
  refine callsIn_of_wp_marks Tryd.func29 rfl trivial ?_ rfl
  simp only [Tryd.ntmps29, List.size_toArray, List.length_cons, List.length_nil, Nat.reduceAdd, Nat.reduceSub, Array.replicate_succ, Array.replicate_zero, List.push_toArray, List.append_toArray, List.nil_append, List.cons_append]
  have H0 := Lib.hid (And.intro b0 (And.intro b1 (And.intro hB (And.intro hT hz)))); clear b0 b1 hB hT hz
  have HOK := Lib.hid hok; clear hok
  gi_wp2
  obtain ⟨w1, hw1⟩ : ∃ w1, (w.alloc (.cells #[.string p] 9)).alloc (.cells #[.bool false] 4) = w1 := ⟨_, rfl⟩
  rw [hw1] at H0
  rw [hw1]
  clear hw1
  have q0 := H0.out.2.2.2.1.box.cell 0
  have q1 := H0.out.1.cell 0
  simp at q0 q1
  refine wpIn_wide.2 ?_
  go_still_tail 5, (by kernel_rfl)
  go_wp2_with fail
  have hTd := H0.out.2.2.2.1.below ((Below.refl w1.heap.size w1).drew)
  refine (srtFromSN_any _ bm xs p hTd.map hn hp).mono ?_
  rintro e w2 ⟨gb, v, rfl, hgb, hL, hge, hvb, hb2⟩
  obtain ⟨ys, hys⟩ : ∃ ys, xs.drop (lbN ordS p xs) = ys := ⟨_, rfl⟩
  rw [hys] at hL
  have hysm : ∀ e ∈ ys, e ∈ xs := fun e he => by rw [← hys] at he; exact List.mem_of_mem_drop he
  have hyl : ys.length ≤ 1000000 := by rw [← hys, List.length_drop]; omega
  have hb12 : Below w1.heap.size w1 w2 := (Below.refl _ _).drew.trans hb2
  have B0 := H0.out.1.below hb12 H0.out.1.lt
  have B1 := H0.out.2.1.below hb12 H0.out.2.1.lt
  have hBw := H0.out.2.2.1.trans (hb12.mono H0.out.2.2.1.size)
  have hz2 : w.heap.size + 1 + 1 ≤ w2.heap.size := by have := hb12.size; rw [H0.out.2.2.2.2] at this; exact this
  have HYS := Lib.hid (And.intro hys hysm); clear hys hysm hb2 hb12 hTd q0 q1
  go_wp2_with fail
  gi_wp2
  obtain ⟨T, hTe⟩ : ∃ T, T = w.heap.size := ⟨_, rfl⟩
  rw [← hTe] at B0 B1 hBw hz2 ⊢
  have HTE := Lib.hid hTe; clear hTe H0
  have hgl := hgb.lt
  refine wpIn_rangeFunc_tell (Mine := fun _ => False) (fun _ h => h.elim) rfl (by omega) (gf := 95) (lb := #[.pointer (some ⟨gb, 0, none⟩)]) rfl trivial (enters_of Tryd.func95 (by kernel_rfl) rfl)
    (toldSN_tells 8 (by omega) gb v ys w2 hgb hL hyl) KeepIt.trans (keepIt_b hgl hvb) (Below.refl _ _) (fun _ => rfl)
    (fun pre W => HoI T p pre W ∧ Below T w W)
    (fun c pre W => HoX T p c pre W ∧ Below T w W)
    (OwnM.of_none (OwnFrom.and (Own.from (HoI.own T p) _) (ownFrom_below (by have := HTE.out; omega) (by omega))))
    (fun c => OwnM.of_none (OwnFrom.and (Own.from (HoX.own T p c) _) (ownFrom_below (by have := HTE.out; omega) (by omega))))
    ⟨⟨(fun e he => by cases he), B0, B1⟩, hBw⟩
    ?a1 ?assign ?body ?done ?stop
  case assign =>
    intro l x W K hK
    gi_wp2
    exact hK
  case body =>
    rintro l pre x W ⟨⟨hno, c0, c1⟩, hB⟩ hT
    have hxm : x ∈ ys := by obtain ⟨r, hr⟩ := hT; rw [← hr]; simp
    have hxs := HOK.out x (HYS.out.2 x hxm)
    have m0 := c0.cell 0
    simp at m0
    have HI := Lib.hid (And.intro hno (And.intro c0 (And.intro c1 hB))); clear hno c0 c1 hB hT hxm
    by_cases hx : x.1 = p
    · have t1 : (x.1.toList == p.toList) = true := by rw [hx, beq_iff_eq]
      have HX := Lib.hid hx
      obtain ⟨q, n⟩ := x
      simp only at hx
      subst hx
      clear t1
      gi_wp2
      exact ⟨KeepsOthers.refl _, ⟨Nat.le_refl _, rfl, fun _ _ => rfl⟩, ⟨fun e he => by rcases List.mem_append.1 he with he | he; exact HI.out.1 e he; simp at he; subst he; rfl, HI.out.2.1, HI.out.2.2.1⟩, HI.out.2.2.2⟩
    · have t1 : (x.1.toList == p.toList) = false := by
        rw [beq_eq_false_iff_ne, ByteArray.toList_eq, ByteArray.toList_eq]
        exact fun e => hx (dat_inj e)
      have t2 : (!(x.1.toList == p.toList)) = true := by rw [t1]; rfl
      have t3 : (x.1.toList != p.toList) = true := by rw [bne, t1]; rfl
      have HX := Lib.hid hx; clear hx
      have HU := Lib.hid (under_any W p x.1 hxs)
      obtain ⟨R, hR⟩ : ∃ R, inS (upsS x.1) p = R := ⟨_, rfl⟩
      rw [hR] at HU
      have HR := Lib.hid hR; clear hR
      gi_wp2
      refine ⟨trivial, (CallsIn.inRound l (callsIn_wide.2 HU.out)).mono ?_⟩
      rintro e w5 ⟨rfl, hb5⟩
      have c1 := HI.out.2.2.1.below hb5 HI.out.2.2.1.lt
      have m1 := c1.cell 0
      have f1 := c1.frozen 0
      simp at m1
      have HC := Lib.hid (And.intro c1 hb5); clear c1 hb5
      gi_wp2
      refine ⟨(keeps_belowF HC.out.2).trans (KeepsOthers.setCell _ _ _), ⟨pre, x, rfl, rfl, HI.out.1, HX.out, ?_⟩, ?_⟩
      · rw [HR.out]; exact HC.out.1.put 0 _
      · have hlt := HI.out.2.1.lt
        exact (HI.out.2.2.2.trans (HC.out.2.mono (by omega))).setCell (p := ⟨T + 1, 0, none⟩) (by dsimp only; omega) _
  case done =>
    rintro D zs W hD hzs ⟨⟨hno, c0, c1⟩, hB⟩ hK
    have hF : holdsT xs p = false := by
      unfold holdsT
      rw [HYS.out.1, List.find?_eq_none.2 (fun e he => by rw [← (show zs = ys from hzs)] at he; simp [hno e he])]
    have m1 := c1.cell 0
    have f1 := c1.frozen 0
    simp at m1
    have hD' : w.heap.size ≤ D := by have := HTE.out; omega
    have HC := Lib.hid (And.intro c1 (And.intro hB (And.intro hK hF))); clear c0 c1 hB hK hF hno hzs
    gi_wp2
    have hK2 : (W.setCell ⟨T + 1, 0, none⟩ (.bool false)).heap[D]? = some (Obj.deferred (some [])) := (KeepsOthers.setCell W ⟨T + 1, 0, none⟩ (.bool false)).same D _ HC.out.2.2.1 rfl
    have hR2 : Blk (W.setCell ⟨T + 1, 0, none⟩ (.bool false)) (T + 1) 4 #[.bool false] := HC.out.1.put 0 (.bool false)
    have hB2 := HC.out.2.1.setCell (p := ⟨T + 1, 0, none⟩) (by dsimp only; omega) (.bool false)
    refine ⟨by simp, .inl ⟨_, _, rfl, run_takeDeferred hK2, ?_⟩⟩
    refine ⟨_, res_cellT rfl _ _ (T + 1) 4 (.bool false) rfl (blk_ownF hR2 (grownBy_putObj' _ D (.deferred none)) (fun r e => by cases e; exact ⟨_, hK2, rfl⟩)) Tryd.underlying4, by rw [HC.out.2.2.2], ?_⟩
    exact (hB2.mono (by have := HTE.out; omega)).trans (belowK_b (w := w) (Nat.le_refl _) _ D _ _ hD' hK2 rfl rfl)
  case stop =>
    rintro D c pre W hD hSp ⟨⟨p', x, rfl, rfl, hno, hx, c1⟩, hB⟩ hK
    have hF : holdsT xs p = inS (upsS x.1) p := by
      unfold holdsT
      rw [HYS.out.1, find_first hSp (fun e he => by simp [hno e he]) (by simp [hx])]
    have hD' : w.heap.size ≤ D := by have := HTE.out; omega
    have HC := Lib.hid (And.intro c1 (And.intro hB (And.intro hK hF))); clear c1 hB hK hF hno hSp
    gi_wp2
    refine ⟨by simp, .inl ⟨_, _, rfl, run_takeDeferred HC.out.2.2.1, ?_⟩⟩
    refine ⟨_, res_cellT rfl _ _ (T + 1) 4 (.bool (inS (upsS x.1) p)) rfl (blk_ownF HC.out.1 (grownBy_putObj' _ D (.deferred none)) (fun r e => by cases e; exact ⟨_, HC.out.2.2.1, rfl⟩)) Tryd.underlying4, by rw [HC.out.2.2.2], ?_⟩
    have hB2 := HC.out.2.1
    rw [HTE.out] at hB2
    exact hB2.trans (belowK_b (w := w) (Nat.le_refl _) _ D _ _ hD' HC.out.2.2.1 rfl rfl)
end Go.Proofs.YthnnnlbdbkdcaaaDoor
