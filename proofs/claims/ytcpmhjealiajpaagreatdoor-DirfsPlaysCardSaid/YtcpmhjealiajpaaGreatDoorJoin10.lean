/- Several texts, joined for the limit of sixty files; each one opens with its own comment. -/
import Derived.Test.YtcpmhjealiajpaaGreatDoorJoin9
import Derived.StillTailTactics
import Derived.Test.YtcpmhjealiajpaaGreatDoorJoin6
import Derived.Test.YtcpmhjealiajpaaGreatDoorJoin7
/- tree.holds. -/
set_option linter.unusedVariables false
set_option linter.unusedSimpArgs false
namespace Go.Proofs.YtcpmhjealiajpaaGreatDoor
open Go Go.RowKit Go.Shelf
open Sw
attribute [local go_sem] Oper.semAt_some
theorem res_cellT {P : Program} {fn : Func} {p : Tmp} {ty : TypeId} (h : fn.results = #[.cell p ty]) (tmps : Array Value) (w : World) (g : Nat) (t : TypeId) (v : Value)
    (hp : tmps.getD p undef = .pointer (some ⟨g, 0, none⟩)) (hg : Blk w g t #[v]) (hu : P.underlying ty = some .bool) : (results fn tmps).run P w = .ok v w := by
  have hp' : tmps[p]?.getD undef = .pointer (some ⟨g, 0, none⟩) := by simpa using hp
  have hc : w.cell? ⟨g, 0, none⟩ = some v := by have := hg.cell 0; simpa using this
  simp [results, h, hp', asAddr, loadVar, isAgg, run_underlying hu, run_load, hc]
/-- behind some words: all of them are of the path itself -/
def HoI (T : Nat) (p : ByteArray) (pre : List NE) (W : World) : Prop := (∀ e ∈ pre, e.1 = p) ∧ Blk W T 9 #[.string p] ∧ Blk W (T + 1) 4 #[.bool false]
def HoX (T : Nat) (p : ByteArray) (c : Code) (pre : List NE) (W : World) : Prop := ∃ (pre' : List NE) (x : NE), pre = pre' ++ [x] ∧ c = .ret ∧ (∀ e ∈ pre', e.1 = p) ∧ ¬ x.1 = p ∧ Blk W (T + 1) 4 #[.bool (inS (upsS x.1) p)]
theorem HoI.own (T : Nat) (p : ByteArray) : Own (HoI T p) := fun _ A B row hs hg hr => ⟨hs.1, blk_ownF hs.2.1 hg hr, blk_ownF hs.2.2 hg hr⟩
theorem HoX.own (T : Nat) (p : ByteArray) (c : Code) : Own (HoX T p c) := fun _ A B row hs hg hr => by
  obtain ⟨p', x, e1, e2, e3, e4, h⟩ := hs
  exact ⟨p', x, e1, e2, e3, e4, blk_ownF h hg hr⟩
theorem find_first {α : Type} {f : α → Bool} {ys pre : List α} {x : α} (hp : (pre ++ [x]) <+: ys) (h1 : ∀ e ∈ pre, f e = false) (h2 : f x = true) : ys.find? f = some x := by
  obtain ⟨r, rfl⟩ := hp
  rw [List.append_assoc, List.find?_append, List.find?_eq_none.2 (fun e he => by rw [h1 e he]; simp)]
  simp [h2]
set_option maxRecDepth 100000 in
set_option maxHeartbeats 4000000 in
theorem treeHolds_any (w : World) (bt bm : Nat) (xs : List NE) (p : ByteArray) (h : TreeAt w bt bm xs) (hn : xs.length ≤ 1000000) (hp : p.size ≤ 90000) :
    Calls Tryz.prog 48 #[.pointer (some ⟨bt, 0, none⟩), .string p] w fun e w' => e = .returned (.bool (holdsT xs p)) ∧ Below w.heap.size w w' := by
  have b0 := blk_fst w #[.string p] 9 (.cells #[.bool false] 4)
  have b1 := blk_snd w (.cells #[.string p] 9) #[.bool false] 4
  have hB : Below w.heap.size w ((w.alloc (.cells #[.string p] 9)).alloc (.cells #[.bool false] 4)) := ((Below.refl _ w).alloc (Nat.le_refl _) _).alloc (by simp) _
  have hz : ((w.alloc (.cells #[.string p] 9)).alloc (.cells #[.bool false] 4)).heap.size = w.heap.size + 1 + 1 := by simp
  have hT := h.below hB
  have hok : ∀ e ∈ xs, e.1.size ≤ 90000 := fun e he => h.map.ok e he
  clear h
  refine callsIn_wide.1 (?_ : CallsIn Fence.wide 9 _ _ _ _ _)
  refine callsIn_of_wp_marks Tryz.func48 rfl trivial ?_ rfl
  simp only [Tryz.ntmps48, List.size_toArray, List.length_cons, List.length_nil, Nat.reduceAdd, Nat.reduceSub, Array.replicate_succ, Array.replicate_zero, List.push_toArray, List.append_toArray, List.nil_append, List.cons_append]
  have H0 := Lib.hid (And.intro b0 (And.intro b1 (And.intro hB (And.intro hT hz)))); clear b0 b1 hB hT hz
  have HOK := Lib.hid hok; clear hok
  gi_wp2
  obtain ⟨w1, hw1⟩ : ∃ w1, (w.alloc (.cells #[.string p] 9)).alloc (.cells #[.bool false] 4) = w1 := ⟨_, rfl⟩
  rw [hw1] at H0
  rw [hw1]
  clear hw1
  have q0 := H0.out.2.2.2.1.box.cell 0
  have q1 := H0.out.1.cell 0
  simp at q0 q1
  refine wpIn_wide.2 ?_
  go_still_tail 5, (by kernel_rfl)
  go_wp2_with fail
  have hTd := H0.out.2.2.2.1.below ((Below.refl w1.heap.size w1).drew)
  refine (srtFromSN_any _ bm xs p hTd.map hn hp).mono ?_
  rintro e w2 ⟨gb, v, rfl, hgb, hL, hge, hvb, hb2⟩
  obtain ⟨ys, hys⟩ : ∃ ys, xs.drop (lbN ordS p xs) = ys := ⟨_, rfl⟩
  rw [hys] at hL
  have hysm : ∀ e ∈ ys, e ∈ xs := fun e he => by rw [← hys] at he; exact List.mem_of_mem_drop he
  have hyl : ys.length ≤ 1000000 := by rw [← hys, List.length_drop]; omega
  have hb12 : Below w1.heap.size w1 w2 := (Below.refl _ _).drew.trans hb2
  have B0 := H0.out.1.below hb12 H0.out.1.lt
  have B1 := H0.out.2.1.below hb12 H0.out.2.1.lt
  have hBw := H0.out.2.2.1.trans (hb12.mono H0.out.2.2.1.size)
  have hz2 : w.heap.size + 1 + 1 ≤ w2.heap.size := by have := hb12.size; rw [H0.out.2.2.2.2] at this; exact this
  have HYS := Lib.hid (And.intro hys hysm); clear hys hysm hb2 hb12 hTd q0 q1
  go_wp2_with fail
  gi_wp2
  obtain ⟨T, hTe⟩ : ∃ T, T = w.heap.size := ⟨_, rfl⟩
  rw [← hTe] at B0 B1 hBw hz2 ⊢
  have HTE := Lib.hid hTe; clear hTe H0
  have hgl := hgb.lt
  refine wpIn_rangeFunc_tell (Mine := fun _ => False) (fun _ h => h.elim) rfl (by omega) (gf := 116) (lb := #[.pointer (some ⟨gb, 0, none⟩)]) rfl trivial (enters_of Tryz.func116 (by kernel_rfl) rfl)
    (toldSN_tells 8 (by omega) gb v ys w2 hgb hL hyl) KeepIt.trans (keepIt_b hgl hvb) (Below.refl _ _) (fun _ => rfl)
    (fun pre W => HoI T p pre W ∧ Below T w W)
    (fun c pre W => HoX T p c pre W ∧ Below T w W)
    (OwnM.of_none (OwnFrom.and (Own.from (HoI.own T p) _) (ownFrom_below (by have := HTE.out; omega) (by omega))))
    (fun c => OwnM.of_none (OwnFrom.and (Own.from (HoX.own T p c) _) (ownFrom_below (by have := HTE.out; omega) (by omega))))
    ⟨⟨(fun e he => by cases he), B0, B1⟩, hBw⟩
    ?a1 ?assign ?body ?done ?stop
  case assign =>
    intro l x W K hK
    gi_wp2
    exact hK
  case body =>
    rintro l pre x W ⟨⟨hno, c0, c1⟩, hB⟩ hT
    have hxm : x ∈ ys := by obtain ⟨r, hr⟩ := hT; rw [← hr]; simp
    have hxs := HOK.out x (HYS.out.2 x hxm)
    have m0 := c0.cell 0
    simp at m0
    have HI := Lib.hid (And.intro hno (And.intro c0 (And.intro c1 hB))); clear hno c0 c1 hB hT hxm
    by_cases hx : x.1 = p
    · have t1 : (x.1.toList == p.toList) = true := by rw [hx, beq_iff_eq]
      have HX := Lib.hid hx
      obtain ⟨q, n⟩ := x
      simp only at hx
      subst hx
      clear t1
      gi_wp2
      exact ⟨KeepsOthers.refl _, ⟨Nat.le_refl _, rfl, fun _ _ => rfl⟩, ⟨fun e he => by rcases List.mem_append.1 he with he | he; exact HI.out.1 e he; simp at he; subst he; rfl, HI.out.2.1, HI.out.2.2.1⟩, HI.out.2.2.2⟩
    · have t1 : (x.1.toList == p.toList) = false := by
        rw [beq_eq_false_iff_ne, ByteArray.toList_eq, ByteArray.toList_eq]
        exact fun e => hx (dat_inj e)
      have t2 : (!(x.1.toList == p.toList)) = true := by rw [t1]; rfl
      have t3 : (x.1.toList != p.toList) = true := by rw [bne, t1]; rfl
      have HX := Lib.hid hx; clear hx
      have HU := Lib.hid (under_any W p x.1 hxs)
      obtain ⟨R, hR⟩ : ∃ R, inS (upsS x.1) p = R := ⟨_, rfl⟩
      rw [hR] at HU
      have HR := Lib.hid hR; clear hR
      gi_wp2
      refine ⟨trivial, (CallsIn.inRound l (callsIn_wide.2 HU.out)).mono ?_⟩
      rintro e w5 ⟨rfl, hb5⟩
      have c1 := HI.out.2.2.1.below hb5 HI.out.2.2.1.lt
      have m1 := c1.cell 0
      have f1 := c1.frozen 0
      simp at m1
      have HC := Lib.hid (And.intro c1 hb5); clear c1 hb5
      gi_wp2
      refine ⟨(keeps_belowF HC.out.2).trans (KeepsOthers.setCell _ _ _), ⟨pre, x, rfl, rfl, HI.out.1, HX.out, ?_⟩, ?_⟩
      · rw [HR.out]; exact HC.out.1.put 0 _
      · have hlt := HI.out.2.1.lt
        exact (HI.out.2.2.2.trans (HC.out.2.mono (by omega))).setCell (p := ⟨T + 1, 0, none⟩) (by dsimp only; omega) _
  case done =>
    rintro D zs W hD hzs ⟨⟨hno, c0, c1⟩, hB⟩ hK
    have hF : holdsT xs p = false := by
      unfold holdsT
      rw [HYS.out.1, List.find?_eq_none.2 (fun e he => by rw [← (show zs = ys from hzs)] at he; simp [hno e he])]
    have m1 := c1.cell 0
    have f1 := c1.frozen 0
    simp at m1
    have hD' : w.heap.size ≤ D := by have := HTE.out; omega
    have HC := Lib.hid (And.intro c1 (And.intro hB (And.intro hK hF))); clear c0 c1 hB hK hF hno hzs
    gi_wp2
    have hK2 : (W.setCell ⟨T + 1, 0, none⟩ (.bool false)).heap[D]? = some (Obj.deferred (some [])) := (KeepsOthers.setCell W ⟨T + 1, 0, none⟩ (.bool false)).same D _ HC.out.2.2.1 rfl
    have hR2 : Blk (W.setCell ⟨T + 1, 0, none⟩ (.bool false)) (T + 1) 4 #[.bool false] := HC.out.1.put 0 (.bool false)
    have hB2 := HC.out.2.1.setCell (p := ⟨T + 1, 0, none⟩) (by dsimp only; omega) (.bool false)
    refine ⟨by simp, .inl ⟨_, _, rfl, run_takeDeferred hK2, ?_⟩⟩
    refine ⟨_, res_cellT rfl _ _ (T + 1) 4 (.bool false) rfl (blk_ownF hR2 (grownBy_putObj' _ D (.deferred none)) (fun r e => by cases e; exact ⟨_, hK2, rfl⟩)) Tryz.underlying4, by rw [HC.out.2.2.2], ?_⟩
    exact (hB2.mono (by have := HTE.out; omega)).trans (belowK_b (w := w) (Nat.le_refl _) _ D _ _ hD' hK2 rfl rfl)
  case stop =>
    rintro D c pre W hD hSp ⟨⟨p', x, rfl, rfl, hno, hx, c1⟩, hB⟩ hK
    have hF : holdsT xs p = inS (upsS x.1) p := by
      unfold holdsT
      rw [HYS.out.1, find_first hSp (fun e he => by simp [hno e he]) (by simp [hx])]
    have hD' : w.heap.size ≤ D := by have := HTE.out; omega
    have HC := Lib.hid (And.intro c1 (And.intro hB (And.intro hK hF))); clear c1 hB hK hF hno hSp
    gi_wp2
    refine ⟨by simp, .inl ⟨_, _, rfl, run_takeDeferred HC.out.2.2.1, ?_⟩⟩
    refine ⟨_, res_cellT rfl _ _ (T + 1) 4 (.bool (inS (upsS x.1) p)) rfl (blk_ownF HC.out.1 (grownBy_putObj' _ D (.deferred none)) (fun r e => by cases e; exact ⟨_, HC.out.2.2.1, rfl⟩)) Tryz.underlying4, by rw [HC.out.2.2.2], ?_⟩
    have hB2 := HC.out.2.1
    rw [HTE.out] at hB2
    exact hB2.trans (belowK_b (w := w) (Nat.le_refl _) _ D _ _ hD' HC.out.2.2.1 rfl rfl)
end Go.Proofs.YtcpmhjealiajpaaGreatDoor
/- tree.Bytes. -/
set_option linter.unusedVariables false
set_option linter.unusedSimpArgs false
namespace Go.Proofs.YtcpmhjealiajpaaGreatDoor
open Go Go.RowKit Go.Shelf
open Sw
attribute [local go_sem] Oper.semAt_some
theorem res_cellI {P : Program} {fn : Func} {p : Tmp} {ty : TypeId} (h : fn.results = #[.cell p ty]) (tmps : Array Value) (w : World) (g : Nat) (t : TypeId) (v : Value)
    (hp : tmps.getD p undef = .pointer (some ⟨g, 0, none⟩)) (hg : Blk w g t #[v]) (hu : P.underlying ty = some (.int .i64)) : (results fn tmps).run P w = .ok v w := by
  have hp' : tmps[p]?.getD undef = .pointer (some ⟨g, 0, none⟩) := by simpa using hp
  have hc : w.cell? ⟨g, 0, none⟩ = some v := by have := hg.cell 0; simpa using this
  simp [results, h, hp', asAddr, loadVar, isAgg, run_underlying hu, run_load, hc]
/-- the bytes of the entries' data -/
def bytesT (xs : List NE) : Nat := (xs.map fun e => e.2.data.size).sum
theorem bytesT_app (a b : List NE) : bytesT (a ++ b) = bytesT a + bytesT b := by unfold bytesT; rw [List.map_append, List.sum_append]
theorem bytesT_pre {a xs : List NE} (h : a <+: xs) : bytesT a ≤ bytesT xs := by
  obtain ⟨r, rfl⟩ := h
  rw [bytesT_app]
  omega
def ByI (T M : Nat) (pre : List NE) (W : World) : Prop := Blk W T 3 #[.int .i64 (bytesT pre)] ∧ M ≤ W.heap.size
theorem ByI.own (T M : Nat) : Own (ByI T M) := fun _ A B row hs hg hr => ⟨blk_ownF hs.1 hg hr, Nat.le_trans hs.2 hg.size⟩
set_option maxRecDepth 100000 in
set_option maxHeartbeats 4000000 in
theorem treeBytes_any (w : World) (bt bm : Nat) (xs : List NE) (h : TreeAt w bt bm xs) (hn : xs.length ≤ 1000000) (hby : bytesT xs ≤ 1000000000) :
    Calls Tryz.prog 22 #[.pointer (some ⟨bt, 0, none⟩)] w fun e w' => e = .returned (.int .i64 (bytesT xs)) ∧ Below w.heap.size w w' := by
  have b0 := Blk.new w 3 #[.int .i64 0]
  have hB : Below w.heap.size w (w.alloc (.cells #[.int .i64 0] 3)) := (Below.refl _ w).alloc (Nat.le_refl _) _
  have hT := h.below hB
  clear h
  refine callsIn_wide.1 (?_ : CallsIn Fence.wide 9 _ _ _ _ _)
  refine callsIn_of_wp_marks Tryz.func22 rfl trivial ?_ rfl
  simp only [Tryz.ntmps22, List.size_toArray, List.length_cons, List.length_nil, Nat.reduceAdd, Nat.reduceSub, Array.replicate_succ, Array.replicate_zero, List.push_toArray, List.append_toArray, List.nil_append, List.cons_append]
  have H0 := Lib.hid (And.intro b0 (And.intro hB hT)); clear b0 hB hT
  gi_wp2
  obtain ⟨w1, hw1⟩ : ∃ w1, w.alloc (.cells #[.int .i64 0] 3) = w1 := ⟨_, rfl⟩
  rw [hw1] at H0
  rw [hw1]
  clear hw1
  refine ⟨trivial, (callsIn_wide.2 (treeAll_any w1 bt bm xs H0.out.2.2)).mono ?_⟩
  rintro e w2 ⟨gb, v, rfl, hgb, hL, hge, hvb, hb2⟩
  have B0 := H0.out.1.below hb2 H0.out.1.lt
  have hTgb : w.heap.size ≠ gb := by have := H0.out.1.lt; omega
  have hTv : 0 < xs.length → ∀ g, v.ownBlock = some g → w.heap.size ≠ g := fun h0 g hg => by
    obtain ⟨A, c, rfl, _, _, h3⟩ := hL
    obtain ⟨g', off, cur, rfl, hb, _⟩ := h3 h0
    cases hg
    exact Blk.other B0 hb (by decide)
  have HNE := Lib.hid (And.intro hTgb hTv); clear hTgb hTv
  have hBw := H0.out.2.1.trans (hb2.mono H0.out.2.1.size)
  have hz2 : w.heap.size < w2.heap.size := B0.lt
  clear hb2 hge
  gi_wp2
  obtain ⟨T, hTe⟩ : ∃ T, T = w.heap.size := ⟨_, rfl⟩
  rw [← hTe] at B0 hBw hz2 HNE ⊢
  have HTE := Lib.hid hTe; clear hTe H0
  have hgl := hgb.lt
  refine wpIn_rangeFunc_tellW (Mine := fun _ => False) (fun _ h => h.elim) rfl (by omega) (gf := 116) (lb := #[.pointer (some ⟨gb, 0, none⟩)]) rfl trivial (enters_of Tryz.func116 (by kernel_rfl) rfl)
    (toldSN_tells 8 (by omega) gb v xs w2 hgb hL hn) KeepIt.trans (keepIt_b hgl hvb) (Below.refl _ _) (fun _ => rfl)
    (fun pre W => ByI T w2.heap.size pre W ∧ Below T w W)
    (fun c pre W => False)
    (OwnM.of_none (OwnFrom.and (Own.from (ByI.own T w2.heap.size) _) (ownFrom_below (by have := HTE.out; omega) (by omega))))
    (fun c => OwnM.of_none (fun _ _ _ _ hs _ _ => hs.elim))
    ⟨⟨B0, Nat.le_refl _⟩, hBw⟩
    (fun x n₀ => { tmps := #[.pointer (some ⟨bt, 0, none⟩), undef, .pointer (some ⟨T, 0, none⟩), undef, .pointer (some ⟨n₀, 0, none⟩), .pointer (some ⟨bt, 0, none⟩), .func (.func 116) #[] #[.pointer (some ⟨gb, 0, none⟩)], .string x.1, .agg x.2.c, undef, undef, undef, undef, undef, undef], defers := [] }) (fun x W => W.alloc (.cells x.2.c 30))
    (fun x n₀ pre W => ByI T w2.heap.size pre W ∧ Below T w W ∧ Blk W n₀ 30 x.2.c) (fun x n₀ => OwnM.of_none (OwnFrom.and (Own.from (ByI.own T w2.heap.size) _) (OwnFrom.and (ownFrom_below (by have := HTE.out; omega) (by omega)) (Own.from (fun _ A B row hs hg hr => blk_ownF hs hg hr) _)))) ?made ?assign ?body ?done ?stop
  case assign =>
    rintro l ⟨q, kd, md, tm, dt⟩ n₀ W rfl K hK
    simp only [Nd.c] at hK ⊢
    gi_wp2
    exact hK
  case made =>
    rintro pre x W ⟨⟨c0, hM⟩, hB⟩ hT
    have hba := (Below.refl W.heap.size W).alloc (Nat.le_refl _) (.cells x.2.c 30)
    refine ⟨⟨⟨c0.below hba c0.lt, Nat.le_trans hM hba.size⟩, hB.alloc (Nat.le_of_lt c0.lt) _, Blk.new _ _ _⟩, ?_, ?_⟩
    · exact keeps_belowF hba
    · exact .below hba (by omega) (fun g hg => by have := hvb g hg; omega)
  case body =>
    rintro l pre x n₀ W ⟨⟨c0, hM⟩, hB, hX⟩ hT
    have x3 := hX.cell 3
    simp [Nd.c] at x3
    have hle := bytesT_pre hT
    have HT := Lib.hid hT
    have hap := bytesT_app pre [x]
    have h1 : bytesT [x] = x.2.data.size := by unfold bytesT; simp
    have m0 := c0.cell 0
    have f0 := c0.frozen 0
    simp at m0
    have HI := Lib.hid (And.intro c0 (And.intro hB hap)); clear c0 hB hap
    gi_wp2
    have hx0 : 0 < xs.length := by obtain ⟨r, hr⟩ := HT.out; rw [← hr]; simp; omega
    have hput := HI.out.1.put 0 (.int .i64 (bytesT (pre ++ [x])))
    refine ⟨KeepsOthers.setCell _ _ _, ⟨by simp, Below.heap_setCell _ _ _ _ HNE.out.1.symm, fun g hg => Below.heap_setCell _ _ _ _ (HNE.out.2 hx0 g hg).symm⟩, ⟨?_, ?_⟩, ?_⟩
    · have e1 : ((bytesT pre : Int) + (x.2.data.size : Int)) = ((bytesT (pre ++ [x]) : Nat) : Int) := by rw [HI.out.2.2, h1]; omega
      rw [e1, IntWalk.wrap64_in _ ⟨by omega, by omega⟩]
      exact hput
    · simp; exact hM
    · exact HI.out.2.1.setCell (p := ⟨T, 0, none⟩) (Nat.le_refl _) _
  case done =>
    rintro D zs W hD hzs ⟨⟨c0, hM⟩, hB⟩ hK
    have hz : zs = xs := hzs
    subst hz
    have m1 := c0.cell 0
    have f1 := c0.frozen 0
    simp at m1
    have hD' : w.heap.size ≤ D := by have := HTE.out; omega
    have HC := Lib.hid (And.intro c0 (And.intro hB hK)); clear c0 hB hK hzs
    gi_wp2
    have hK2 : (W.setCell ⟨T, 0, none⟩ (.int .i64 (bytesT zs))).heap[D]? = some (Obj.deferred (some [])) := (KeepsOthers.setCell W ⟨T, 0, none⟩ (.int .i64 (bytesT zs))).same D _ HC.out.2.2 rfl
    have hR2 : Blk (W.setCell ⟨T, 0, none⟩ (.int .i64 (bytesT zs))) T 3 #[.int .i64 (bytesT zs)] := HC.out.1.put 0 (.int .i64 (bytesT zs))
    have hB2 := HC.out.2.1.setCell (p := ⟨T, 0, none⟩) (Nat.le_refl _) (.int .i64 (bytesT zs))
    refine ⟨by simp, .inl ⟨_, _, rfl, run_takeDeferred hK2, ?_⟩⟩
    refine ⟨_, res_cellI rfl _ _ T 3 (.int .i64 (bytesT zs)) rfl (blk_ownF hR2 (grownBy_putObj' _ D (.deferred none)) (fun r e => by cases e; exact ⟨_, hK2, rfl⟩)) Tryz.underlying3, rfl, ?_⟩
    exact (hB2.mono (by have := HTE.out; omega)).trans (belowK_b (w := w) (Nat.le_refl _) _ D _ _ hD' hK2 rfl rfl)
  case stop =>
    rintro D c pre W hD hSp h
    exact h.elim
end Go.Proofs.YtcpmhjealiajpaaGreatDoor
/- Plain laws of SortedAlike: rows that rise are told by their members; what is put in any order stands alike. -/
set_option linter.unusedVariables false
set_option linter.unusedSimpArgs false
namespace Sw
section
variable {κ ν : Type} {c : κ → κ → Int}
theorem up_ext (hO : Ord3 c) : ∀ (l m : List (κ × ν)), Up c l → Up c m → (∀ x, x ∈ l ↔ x ∈ m) → l = m
  | [], m, _, _, h => by
    cases m with
    | nil => rfl
    | cons e m => exact absurd ((h e).2 (List.mem_cons_self ..)) (by simp)
  | a :: l, [], _, _, h => absurd ((h a).1 (List.mem_cons_self ..)) (by simp)
  | a :: l, b :: m, hl, hm, h => by
    have hab : a = b := by
      have h1 := (h a).1 (List.mem_cons_self ..)
      have h2 := (h b).2 (List.mem_cons_self ..)
      rw [List.mem_cons] at h1 h2
      rcases h1 with h1 | h1
      · exact h1
      · rcases h2 with h2 | h2
        · exact h2.symm
        · have e1 := hm.head a h1
          have e2 := hl.head b h2
          have := hO.neg a.1 b.1
          omega
    subst hab
    congr 1
    refine up_ext hO l m hl.tail hm.tail fun x => ?_
    have hx := h x
    rw [List.mem_cons, List.mem_cons] at hx
    constructor
    · intro hm'
      rcases hx.1 (.inr hm') with e | e
      · subst e
        have := hl.head _ hm'
        have := hO.self x.1
        omega
      · exact e
    · intro hm'
      rcases hx.2 (.inr hm') with e | e
      · subst e
        have := hm.head _ hm'
        have := hO.self x.1
        omega
      · exact e
/-- all of a row, put one behind another -/
def putL (c : κ → κ → Int) (l : List (κ × ν)) : List (κ × ν) := l.foldl (fun m e => putN c e.1 e.2 m) []
theorem putL_snoc (l : List (κ × ν)) (e : κ × ν) : putL c (l ++ [e]) = putN c e.1 e.2 (putL c l) := by
  unfold putL
  rw [List.foldl_append]
  rfl
/-- keys that differ -/
def Unlike (l : List (κ × ν)) : Prop := l.Pairwise fun a b => a.1 ≠ b.1
theorem put_new (hO : Ord3 c) (k : κ) (v : ν) (l : List (κ × ν)) (hu : Up c l) (hk : ∀ x ∈ l, x.1 ≠ k) : (∀ x, x ∈ putN c k v l ↔ x = (k, v) ∨ x ∈ l) ∧ (putN c k v l).length = l.length + 1 := by
  have hin : inN c k l = false := by
    cases h : inN c k l with
    | false => rfl
    | true =>
      exfalso
      have hlt := inN_lt hO h
      rw [inN_at hO hlt, decide_eq_true_eq] at h
      exact hk _ (List.getElem_mem hlt) (hO.zero _ _ h)
  constructor
  · intro x
    rw [put_miss k v l hin]
    have ht : x ∈ l ↔ x ∈ l.take (lbN c k l) ∨ x ∈ l.drop (lbN c k l) := by
      rw [← List.mem_append, List.take_append_drop]
    rw [ht, List.mem_append, List.mem_cons]
    constructor
    · rintro (h | h | h)
      · exact .inr (.inl h)
      · exact .inl h
      · exact .inr (.inr h)
    · rintro (h | h | h)
      · exact .inr (.inl h)
      · exact .inl h
      · exact .inr (.inr h)
  · rw [put_len, hin]; rfl
/-- what is put of unlike keys: it rises, and has these members -/
theorem putL_all (hO : Ord3 c) : ∀ n (l : List (κ × ν)), l.length = n → Unlike l → Up c (putL c l) ∧ (∀ x, x ∈ putL c l ↔ x ∈ l) ∧ (putL c l).length = l.length
  | 0, l, hl, _ => by
    obtain rfl : l = [] := List.length_eq_zero_iff.1 hl
    exact ⟨List.Pairwise.nil, fun x => Iff.rfl, rfl⟩
  | n + 1, l, hl, hu => by
    have hne : l ≠ [] := by intro e; subst e; simp at hl
    obtain ⟨r, e, rfl⟩ : ∃ r e, l = r ++ [e] := ⟨l.dropLast, l.getLast hne, (List.dropLast_concat_getLast hne).symm⟩
    unfold Unlike at hu
    rw [List.pairwise_append] at hu
    obtain ⟨h1, h2, h3⟩ := putL_all hO n r (by simpa using hl) hu.1
    rw [putL_snoc]
    have hk : ∀ x ∈ putL c r, x.1 ≠ e.1 := fun x hx => hu.2.2 x ((h2 x).1 hx) e (List.mem_singleton.2 rfl)
    obtain ⟨h4, h5⟩ := put_new hO e.1 e.2 _ h1 hk
    refine ⟨put_up hO _ _ _ h1, fun x => ?_, ?_⟩
    · rw [h4, h2, List.mem_append, List.mem_singleton]
      exact Or.comm
    · rw [h5, h3]; simp
theorem Unlike.rev {l : List (κ × ν)} (h : Unlike l) : Unlike l.reverse := by
  unfold Unlike at *
  rw [List.pairwise_reverse]
  exact h.imp fun h => Ne.symm h
theorem putL_alike (hO : Ord3 c) {l : List (κ × ν)} (h : Unlike l) : putL c l.reverse = putL c l := by
  obtain ⟨a1, a2, _⟩ := putL_all hO _ l rfl h
  obtain ⟨b1, b2, _⟩ := putL_all hO _ l.reverse rfl h.rev
  refine up_ext hO _ _ b1 a1 fun x => ?_
  rw [a2, b2, List.mem_reverse]
/-- the first of what is left is dropped -/
theorem drop_first (hO : Ord3 c) (l : List (κ × ν)) (j : Nat) (hj : j < l.length) : inN c (l[j]'hj).1 (l.drop j) = true ∧ dropN c (l[j]'hj).1 (l.drop j) = l.drop (j + 1) := by
  have hd : l.drop j = l[j] :: l.drop (j + 1) := List.drop_eq_getElem_cons hj
  have h0 := hO.self (l[j]'hj).1
  rw [hd]
  unfold inN dropN
  rw [if_neg (by omega), if_neg (by omega), if_pos h0, decide_eq_true h0]
  exact ⟨rfl, rfl⟩
/-- a row whose keys differ, found one by one -/
theorem unlike_of {l : List (κ × ν)} (h : ∀ j (hj : j < l.length) k (hk : k < j), (l[k]'(by omega)).1 ≠ (l[j]'hj).1) : Unlike l := by
  unfold Unlike
  rw [List.pairwise_iff_getElem]
  intro i j hi hj hij
  exact h j hj i hij
theorem putL_le : ∀ (l m : List (κ × ν)), (l.foldl (fun m e => putN c e.1 e.2 m) m).length ≤ m.length + l.length
  | [], m => by simp
  | e :: l, m => by
    rw [List.foldl_cons]
    have h1 := putL_le l (putN c e.1 e.2 m)
    have h2 := put_len (c := c) e.1 e.2 m
    have h3 : (putN c e.1 e.2 m).length ≤ m.length + 1 := by rw [h2]; split <;> omega
    simp only [List.length_cons]
    omega
theorem putL_length (l : List (κ × ν)) : (putL c l).length ≤ l.length := by
  have := putL_le (c := c) l []
  unfold putL
  simpa using this
/-- the keys of a row are dropped, one behind another -/
def dropA (c : κ → κ → Int) (pre xs : List (κ × ν)) : List (κ × ν) := pre.foldl (fun m e => dropN c e.1 m) xs
theorem dropA_snoc (pre xs : List (κ × ν)) (x : κ × ν) : dropA c (pre ++ [x]) xs = dropN c x.1 (dropA c pre xs) := by
  unfold dropA
  rw [List.foldl_append]
  rfl
theorem dropA_len : ∀ (pre xs : List (κ × ν)), (dropA c pre xs).length ≤ xs.length
  | [], xs => Nat.le_refl _
  | e :: pre, xs => by
    unfold dropA
    rw [List.foldl_cons]
    exact Nat.le_trans (dropA_len pre _) (dropN_len e.1 xs)
theorem dropA_take (hO : Ord3 c) (xs : List (κ × ν)) : ∀ j, j ≤ xs.length → dropA c (xs.take j) xs = xs.drop j
  | 0, _ => by simp [dropA]
  | j + 1, h => by
    rw [List.take_succ_eq_append_getElem h, dropA_snoc, dropA_take hO xs j (by omega)]
    exact (drop_first hO xs j h).2
theorem dropA_all (hO : Ord3 c) (xs : List (κ × ν)) : dropA c xs xs = [] := by
  have := dropA_take hO xs xs.length (Nat.le_refl _)
  rwa [List.take_length, List.drop_length] at this
/-- what is told is there to be dropped -/
theorem dropA_in (hO : Ord3 c) (xs pre : List (κ × ν)) (x : κ × ν) (h : (pre ++ [x]) <+: xs) : inN c x.1 (dropA c pre xs) = true := by
  obtain ⟨r, rfl⟩ := h
  have hj : pre.length < ((pre ++ [x]) ++ r).length := by simp
  have h1 := dropA_take hO ((pre ++ [x]) ++ r) pre.length (by omega)
  have h2 := (drop_first hO ((pre ++ [x]) ++ r) pre.length hj).1
  have h3 : ((pre ++ [x]) ++ r).take pre.length = pre := by rw [List.append_assoc]; exact List.take_left
  rw [h3] at h1
  rw [h1]
  simpa using h2
end
end Sw
/- The reference's rows of items and the tree's: plain. -/
set_option linter.unusedVariables false
set_option linter.unusedSimpArgs false
namespace Sw
open Go
open Go.Proofs.YtcpmhjealiajpaaGreatDoor (partsS)
section
variable {κ ν : Type} {c : κ → κ → Int}
/-- one round of the reference's Set -/
def stepG (c : κ → κ → Int) (k : κ) (v : ν) (s : Bool × List (κ × ν)) (x : κ × ν) : Bool × List (κ × ν) :=
  let s1 := if s.1 = false ∧ 0 ≤ c x.1 k then (true, s.2 ++ [(k, v)]) else s
  if c x.1 k = 0 then s1 else (s1.1, s1.2 ++ [x])
def setG (c : κ → κ → Int) (k : κ) (v : ν) (l : List (κ × ν)) : List (κ × ν) := let s := l.foldl (stepG c k v) (false, []); if s.1 = true then s.2 else s.2 ++ [(k, v)]
theorem stepG_len (k : κ) (v : ν) (s : Bool × List (κ × ν)) (x : κ × ν) : (stepG c k v s x).2.length ≤ s.2.length + 2 := by
  unfold stepG
  dsimp only
  split <;> split <;> simp
theorem foldG_len (k : κ) (v : ν) : ∀ (l : List (κ × ν)) (s : Bool × List (κ × ν)), (l.foldl (stepG c k v) s).2.length ≤ s.2.length + 2 * l.length
  | [], s => by simp
  | x :: l, s => by
    have := foldG_len k v l (stepG c k v s x)
    have := stepG_len (c := c) k v s x
    simp only [List.foldl_cons, List.length_cons]
    omega
theorem foldG_step (k : κ) (v : ν) (l : List (κ × ν)) (i : Nat) (h : i < l.length) : (l.take (i + 1)).foldl (stepG c k v) (false, []) = stepG c k v ((l.take i).foldl (stepG c k v) (false, [])) l[i] := by
  rw [List.take_succ_eq_append_getElem h, List.foldl_append]
  rfl
theorem foldG_true (k : κ) (v : ν) : ∀ (l : List (κ × ν)) (o : List (κ × ν)), l.foldl (stepG c k v) (true, o) = (true, o ++ l.filter fun e => !decide (c e.1 k = 0))
  | [], o => by simp
  | x :: l, o => by
    rw [List.foldl_cons]
    have h1 : stepG c k v (true, o) x = (true, if c x.1 k = 0 then o else o ++ [x]) := by
      unfold stepG
      by_cases hx : c x.1 k = 0 <;> simp [hx]
    rw [h1, foldG_true k v l]
    by_cases hx : c x.1 k = 0
    · rw [if_pos hx, List.filter_cons_of_neg (by simpa using hx)]
    · rw [if_neg hx, List.filter_cons_of_pos (by simpa using hx), List.append_assoc]; rfl
theorem foldG_false (hO : Ord3 c) (k : κ) (v : ν) : ∀ (l : List (κ × ν)) (o : List (κ × ν)), Up c l → (let s := l.foldl (stepG c k v) (false, o); if s.1 = true then s.2 else s.2 ++ [(k, v)]) = o ++ putN c k v l
  | [], o, _ => by simp [putN]
  | x :: l, o, hu => by
    rw [List.foldl_cons]
    unfold putN
    by_cases h1 : 0 ≤ c x.1 k
    · have hs : stepG c k v (false, o) x = (true, if c x.1 k = 0 then o ++ [(k, v)] else o ++ [(k, v)] ++ [x]) := by
        unfold stepG
        by_cases hx : c x.1 k = 0 <;> simp [hx, h1]
      rw [hs, foldG_true]
      have hge : l.filter (fun e => !decide (c e.1 k = 0)) = l := List.filter_eq_self.2 fun y hy => by
        have h2 := hu.head y hy
        have h3 : ¬ c y.1 k = 0 := fun e => by
          have := hO.zero _ _ e
          rw [this] at h2
          omega
        simpa using h3
      dsimp only
      rw [if_pos rfl, hge]
      have h2 : ¬ c x.1 k < 0 := by omega
      by_cases hx : c x.1 k = 0
      · simp [hx]
      · simp [hx, h2]
    · have hs : stepG c k v (false, o) x = (false, o ++ [x]) := by
        unfold stepG
        have hx : ¬ c x.1 k = 0 := by omega
        simp [hx, h1]
      rw [hs, foldG_false hO k v l _ hu.tail, if_pos (by omega), List.append_assoc]
      rfl
theorem setG_eq (hO : Ord3 c) (k : κ) (v : ν) (l : List (κ × ν)) (h : Up c l) : setG c k v l = putN c k v l := by
  have := foldG_false hO k v l [] h
  rw [List.nil_append] at this
  exact this
end
/-- a tree's keys are paths -/
def Paths (xs : List NE) : Prop := ∀ e ∈ xs, rightL e.1.data.toList = true
theorem Paths.put {xs : List NE} (h : Paths xs) {p : ByteArray} (hp : rightL p.data.toList = true) (n : Nd) : Paths (putN ordS p n xs) := fun e he => by
  rcases put_mem p n xs e he with rfl | he
  · exact hp
  · exact h e he
theorem Paths.ofPut {xs : List NE} (h : Paths xs) (p : ByteArray) (n : Nd) : Paths (putT xs p n) := by
  unfold putT
  by_cases h0 : mayT xs p n = 0
  · rw [if_pos h0]
    cases hr : rightL p.data.toList with
    | true => exact h.put hr n
    | false =>
      unfold mayT at h0
      rw [if_pos hr] at h0
      cases h0
  · rw [if_neg h0]
    exact h
theorem Paths.ofDrop {xs : List NE} (h : Paths xs) (p : ByteArray) : Paths (dropT xs p) := by
  unfold dropT
  split
  · exact fun e he => h e (drop_mem p xs e he)
  · exact h
/-- the first entry behind a path tells whether something is under it -/
theorem holds_any : ∀ (xs : List NE) (p : ByteArray), Up ordS xs → Paths xs → holdsT xs p = xs.any fun e => inS (upsS e.1) p
  | [], p, _, _ => rfl
  | x :: xs, p, hu, hp => by
    have hno : ∀ e : NE, ordS e.1 p ≤ 0 → inS (upsS e.1) p = false := fun e he => by
      cases hq : inS (upsS e.1) p with
      | false => rfl
      | true =>
        have h1 := ups_order ((inS_iff _ _).1 hq)
        have h2 := ordS_neg p e.1
        omega
    have ih := holds_any xs p hu.tail (fun e he => hp e (List.mem_cons_of_mem _ he))
    unfold holdsT lbN
    by_cases h1 : ordS x.1 p < 0
    · rw [if_pos h1, List.drop_succ_cons, List.any_cons, hno x (by omega), Bool.false_or, ← ih]
      rfl
    · rw [if_neg h1, List.drop_zero]
      by_cases h0 : ordS x.1 p = 0
      · have hxp : x.1 = p := ordS_zero h0
        rw [List.any_cons, hno x (by omega), Bool.false_or, List.find?_cons_of_neg (by simp [hxp])]
        cases xs with
        | nil => rfl
        | cons y ys =>
          have h2 := hu.head y (List.mem_cons_self ..)
          rw [hxp] at h2
          have hyp : ¬ y.1 = p := fun e => by rw [e, ordS_ord.self] at h2; omega
          rw [List.find?_cons_of_pos (by simp [hyp])]
          have hn := ordS_neg p y.1
          unfold holdsT lbN at ih
          rw [if_neg (by omega), List.drop_zero, List.find?_cons_of_pos (by simp [hyp])] at ih
          exact ih
      · have hxp : ¬ x.1 = p := fun e => h0 (by rw [e]; exact ordS_ord.self p)
        rw [List.find?_cons_of_pos (by simp [hxp]), List.any_cons]
        show inS (upsS x.1) p = (inS (upsS x.1) p || _)
        cases hx : inS (upsS x.1) p with
        | true => rfl
        | false =>
          rw [Bool.false_or, eq_comm, List.any_eq_false]
          intro e he hq
          have hq1 := (inS_iff _ _).1 hq
          have h3 := hu.head e he
          have e1 := ordS_three x.1 e.1
          have e2 := ordS_three x.1 p
          have hn := ordS_neg x.1 p
          have := between hq1 (hp x (List.mem_cons_self ..)) (by omega) (by omega)
          rw [(inS_iff _ _).2 this] at hx
          cases hx
/-- the parent is the last of the ups -/
theorem parent_last (p : ByteArray) : (upsS p = [] ∧ parentS p = ⟨#[]⟩) ∨ (∃ h : upsS p ≠ [], (upsS p).getLast h = parentS p ∧ ¬ parentS p = ⟨#[]⟩) := by
  have hlen := upsS_len p
  rcases Nat.lt_or_ge (partsS p).length 2 with h | h
  · left
    have h1 : upsS p = [] := List.length_eq_zero_iff.1 (by omega)
    refine ⟨h1, ?_⟩
    unfold parentS
    have : (partsS p).dropLast = [] := List.length_eq_zero_iff.1 (by rw [List.length_dropLast]; omega)
    rw [this]
    rfl
  · right
    have hne : upsS p ≠ [] := fun e => by rw [e] at hlen; simp at hlen; omega
    have hk : (upsS p).length - 1 < (upsS p).length := by omega
    have hlast : (upsS p).getLast hne = (upsS p)[(upsS p).length - 1] := List.getLast_eq_getElem hne
    have heq : (upsS p).getLast hne = parentS p := by
      rw [hlast, upsS_at]
      unfold parentS
      rw [List.dropLast_eq_take, show (upsS p).length - 1 + 1 = (partsS p).length - 1 by omega]
    refine ⟨hne, heq, fun e => ?_⟩
    have hst := (ups_step p _ hk).2.2
    rw [← hlast, heq, e] at hst
    exact absurd hst (by decide)
end Sw
/- tree.may, Put, Drop. -/
set_option linter.unusedVariables false
set_option linter.unusedSimpArgs false
namespace Go.Proofs.YtcpmhjealiajpaaGreatDoor
open Go Go.RowKit Go.Shelf
open Sw
/-- a node of data that came in -/
structure NdIn (n : Nd) : Prop where
  t0 : 0 ≤ n.time
  t1 : n.time < 4294967296
  size : n.data.size ≤ maxLen
set_option maxRecDepth 100000 in
set_option maxHeartbeats 8000000 in
theorem treeMay_any (w : World) (bt bm : Nat) (xs : List NE) (p : ByteArray) (n : Nd) (h : TreeAt w bt bm xs) (hn : xs.length ≤ 1000000) (hp : p.size ≤ 90000) (hu : (parentS p).size ≤ 90000) (hin : NdIn n) :
    Calls Tryz.prog 52 #[.pointer (some ⟨bt, 0, none⟩), .string p, .agg n.c] w fun e w' => e = .returned (.int .i64 (mayT xs p n)) ∧ Below w.heap.size w w' := by
  have HR := Lib.hid (right_any _ p (by omega) : Calls Tryz.prog 70 #[.string p] (w.alloc (.cells n.c 30)) fun e w' => e = .returned (.bool (rightL p.data.toList)) ∧ Below (w.alloc (.cells n.c 30)).heap.size (w.alloc (.cells n.c 30)) w')
  have HND := Lib.hid (fun W (hk : ¬ n.kind = 0) => nodeRight_any W n hk hin.t0 hin.t1 hin.size)
  have HPA := Lib.hid (fun W (h : TreeAt W bt bm xs) => treeParent_any W bt bm xs p h hn hp hu)
  have HHO := Lib.hid (fun W (h : TreeAt W bt bm xs) => treeHolds_any W bt bm xs p h hn hp)
  have HGE := Lib.hid (fun W (h : TreeAt W bt bm xs) => treeGet_any W bt bm xs p h hn hp)
  have HLE := Lib.hid (fun W (h : TreeAt W bt bm xs) => treeLen_any W bt bm xs h)
  have hb0 := (Below.refl w.heap.size w).alloc (Nat.le_refl _) (.cells n.c 30)
  have H0 := Lib.hid (And.intro hb0 (And.intro (Blk.new w 30 n.c) (h.below hb0))); clear hb0 h
  have hfld := nodeField0
  have HA := Lib.hid (show mayT xs p n = if rightL p.data.toList = false then 5 else if n.kind = 0 then 1 else if ¬ nodeR n = 0 then nodeR n else if ¬ parentT xs p = 0 then parentT xs p else if ¬ n.kind = 2 ∧ holdsT xs p = true then 8 else if (getT xs p).kind = 0 ∧ 500 ≤ xs.length then 4 else 0 from rfl)
  generalize mayT xs p n = ans at *
  generalize rightL p.data.toList = br at *
  generalize nodeR n = nr at *
  generalize parentT xs p = pr at *
  generalize holdsT xs p = ho at *
  generalize getT xs p = gn at *
  obtain ⟨m, hm⟩ : ∃ m, xs.length = m := ⟨_, rfl⟩
  rw [hm] at HA HLE hn
  have HM := Lib.hid hm; clear hm
  obtain ⟨kd, md, tm, dt⟩ := n
  unfold Nd.c at *
  simp only at HR HND H0 HA
  obtain ⟨gk, gm, gt, gd⟩ := gn
  simp only at HGE HA
  clear hin hp hu
  go_enter Tryz.func52, Tryz.ntmps52
  go_wp2_with fail
  refine HR.out.mono ?_
  rintro e w1 ⟨rfl, hb1⟩
  have hbw := H0.out.1.trans (hb1.mono H0.out.1.size)
  have hB := H0.out.2.1.below hb1 H0.out.2.1.lt
  have H1 := Lib.hid (And.intro hbw (And.intro hB (H0.out.2.2.below hb1))); clear hbw hB hb1 H0 HR
  have x0 := H1.out.2.1.cell 0
  have x1 := H1.out.2.1.cell 1
  have x2 := H1.out.2.1.cell 2
  have x3 := H1.out.2.1.cell 3
  simp at x0 x1 x2 x3
  cases br with
  | false =>
    go_wp2_with fail
    go_ret
    exact ⟨by rw [show ans = 5 from by simpa using HA.out]; rfl, H1.out.1⟩
  | true =>
    by_cases k0 : kd = 0
    · subst k0
      go_wp2_with fail
      go_ret
      exact ⟨by rw [show ans = 1 from by simpa using HA.out]; rfl, H1.out.1⟩
    · have e0 : (kd == 0) = false := by rw [beq_eq_false_iff_ne]; exact k0
      have HN := Lib.hid (HND.out w1 k0)
      have HK := Lib.hid k0; clear k0
      go_wp2_with fail
      refine HN.out.mono ?_
      rintro e w2 ⟨rfl, hb2⟩
      have hbw := H1.out.1.trans (hb2.mono H1.out.1.size)
      have hB := H1.out.2.1.below hb2 H1.out.2.1.lt
      have H2 := Lib.hid (And.intro hbw (And.intro hB (H1.out.2.2.below hb2))); clear hbw hB hb2 H1 HN x0 x1 x2 x3
      have x0 := H2.out.2.1.cell 0
      simp at x0
      by_cases hnr : nr = 0
      · subst hnr
        have HP2 := Lib.hid (HPA.out w2 H2.out.2.2)
        go_wp2_with fail
        refine HP2.out.mono ?_
        rintro e w3 ⟨rfl, hb3⟩
        have hbw := H2.out.1.trans (hb3.mono H2.out.1.size)
        have hB := H2.out.2.1.below hb3 H2.out.2.1.lt
        have H3 := Lib.hid (And.intro hbw (And.intro hB (H2.out.2.2.below hb3))); clear hbw hB hb3 H2 HP2 x0
        have x0 := H3.out.2.1.cell 0
        simp at x0
        by_cases hpr : pr = 0
        · subst hpr
          have HFIN : Hid (∀ (w4 : World) (a : Act) (K : Act → World → Prop), True) := Lib.hid (fun _ _ _ => trivial)
          by_cases k2 : kd = 2
          · subst k2
            have HG4 := Lib.hid (HGE.out w3 H3.out.2.2)
            go_wp2_with fail
            refine HG4.out.mono ?_
            rintro e w5 ⟨rfl, hb5⟩
            have H5 := Lib.hid (And.intro (H3.out.1.trans (hb5.mono H3.out.1.size)) (H3.out.2.2.below hb5)); clear hb5 H3 HG4
            by_cases g0 : gk = 0
            · subst g0
              have HL5 := Lib.hid (HLE.out w5 H5.out.2)
              by_cases hl : (500 : Int) ≤ m
              all_goals
                go_wp2_with fail
                refine HL5.out.mono ?_
                rintro e w6 ⟨rfl, rfl⟩
                go_wp2_with fail
                go_ret
                refine ⟨?_, H5.out.1⟩
                first | (rw [show ans = 4 from by simpa [HK.out, show 500 ≤ m by omega] using HA.out]; rfl) | (rw [show ans = 0 from by simpa [HK.out, show ¬ 500 ≤ m by omega] using HA.out]; rfl)
            · have g1 : (gk == 0) = false := by rw [beq_eq_false_iff_ne]; exact g0
              have HG0 := Lib.hid g0; clear g0
              go_wp2_with fail
              go_ret
              refine ⟨?_, H5.out.1⟩
              rw [show ans = 0 from by simpa [HK.out, HG0.out] using HA.out]; rfl
          · have e2 : (kd == 2) = false := by rw [beq_eq_false_iff_ne]; exact k2
            have e2' : (kd != 2) = true := by rw [bne_iff_ne]; exact k2
            have HK2 := Lib.hid k2; clear k2
            have HH3 := Lib.hid (HHO.out w3 H3.out.2.2)
            go_wp2_with fail
            refine HH3.out.mono ?_
            rintro e w4 ⟨rfl, hb4⟩
            have H4 := Lib.hid (And.intro (H3.out.1.trans (hb4.mono H3.out.1.size)) (H3.out.2.2.below hb4)); clear hb4 H3 HH3 x0
            cases ho with
            | true =>
              go_wp2_with fail
              go_ret
              refine ⟨?_, H4.out.1⟩
              rw [show ans = 8 from by simpa [HK.out, HK2.out] using HA.out]; rfl
            | false =>
              have HG4 := Lib.hid (HGE.out w4 H4.out.2)
              go_wp2_with fail
              refine HG4.out.mono ?_
              rintro e w5 ⟨rfl, hb5⟩
              have H5 := Lib.hid (And.intro (H4.out.1.trans (hb5.mono H4.out.1.size)) (H4.out.2.below hb5)); clear hb5 H4 HG4
              by_cases g0 : gk = 0
              · subst g0
                have HL5 := Lib.hid (HLE.out w5 H5.out.2)
                by_cases hl : (500 : Int) ≤ m
                all_goals
                  go_wp2_with fail
                  refine HL5.out.mono ?_
                  rintro e w6 ⟨rfl, rfl⟩
                  go_wp2_with fail
                  go_ret
                  refine ⟨?_, H5.out.1⟩
                  first | (rw [show ans = 4 from by simpa [HK.out, HK2.out, show 500 ≤ m by omega] using HA.out]; rfl) | (rw [show ans = 0 from by simpa [HK.out, HK2.out, show ¬ 500 ≤ m by omega] using HA.out]; rfl)
              · have g1 : (gk == 0) = false := by rw [beq_eq_false_iff_ne]; exact g0
                have HG0 := Lib.hid g0; clear g0
                go_wp2_with fail
                go_ret
                refine ⟨?_, H5.out.1⟩
                rw [show ans = 0 from by simpa [HK.out, HG0.out] using HA.out]; rfl
        · have p0 : (pr == 0) = false := by rw [beq_eq_false_iff_ne]; exact hpr
          have p1 : (pr != 0) = true := by rw [bne_iff_ne]; exact hpr
          have HPR := Lib.hid hpr; clear hpr
          go_wp2_with fail
          go_ret
          exact ⟨by rw [show ans = pr from by simpa [HK.out, HPR.out] using HA.out]; rfl, H3.out.1⟩
      · have p0 : (nr == 0) = false := by rw [beq_eq_false_iff_ne]; exact hnr
        have p1 : (nr != 0) = true := by rw [bne_iff_ne]; exact hnr
        have HNR := Lib.hid hnr; clear hnr
        go_wp2_with fail
        go_ret
        exact ⟨by rw [show ans = nr from by simpa [HK.out, HNR.out] using HA.out]; rfl, H2.out.1⟩
theorem putT_len (xs : List NE) (p : ByteArray) (n : Nd) : (putT xs p n).length ≤ xs.length + 1 := by
  unfold putT
  split
  · rw [put_len]; split <;> omega
  · omega
set_option maxRecDepth 100000 in
set_option maxHeartbeats 4000000 in
theorem treePut_any (w : World) (bt bm : Nat) (xs : List NE) (p : ByteArray) (n : Nd) (h : TreeAt w bt bm xs) (hn : xs.length + 1 ≤ 1000000) (hp : p.size ≤ 90000) (hu : (parentS p).size ≤ 90000) (hin : NdIn n) :
    Calls Tryz.prog 12 #[.pointer (some ⟨bt, 0, none⟩), .string p, .agg n.c] w fun e w' => e = .returned (.int .i64 (mayT xs p n)) ∧ TreeAt w' bt bm (putT xs p n) ∧ w.grownBy w' (some bm) := by
  have hb0 := (Below.refl w.heap.size w).alloc (Nat.le_refl _) (.cells n.c 30)
  have hT0 := h.below hb0
  have HMY := Lib.hid (treeMay_any _ bt bm xs p n hT0 (by omega) hp hu hin)
  have HPU := Lib.hid (fun W (h : SMapSN W bm xs) => srtPutSN_any W bm xs p n h hn hp)
  have H0 := Lib.hid (And.intro hb0 (And.intro (Blk.new w 30 n.c) hT0)); clear hb0 hT0 h
  have HPT := Lib.hid (show putT xs p n = if mayT xs p n = 0 then putN ordS p n xs else xs from rfl)
  generalize mayT xs p n = ans at *
  generalize putT xs p n = zs at *
  generalize inN ordS p xs = bi at *
  obtain ⟨kd, md, tm, dt⟩ := n
  unfold Nd.c at *
  simp only at HMY HPU H0
  clear hin hp hu
  go_enter Tryz.func12, Tryz.ntmps12
  have x0 := H0.out.2.1.cell 0
  go_wp2_with fail
  refine HMY.out.mono ?_
  rintro e w1 ⟨rfl, hb1⟩
  have hbw := H0.out.1.trans (hb1.mono H0.out.1.size)
  have hB := H0.out.2.1.below hb1 H0.out.2.1.lt
  have H1 := Lib.hid (And.intro hbw (And.intro hB (H0.out.2.2.below hb1))); clear hbw hB hb1 H0 HMY x0
  by_cases ha : ans = 0
  · subst ha
    have x0 := H1.out.2.1.cell 0
    have x1 := H1.out.2.1.cell 1
    have x2 := H1.out.2.1.cell 2
    have x3 := H1.out.2.1.cell 3
    have q0 := H1.out.2.2.box.cell 0
    simp at x0 x1 x2 x3 q0
    go_wp2_with fail
    go_still_tail 6, (by kernel_rfl)
    go_wp2_with fail
    have hT1 := H1.out.2.2.below ((Below.refl w1.heap.size w1).drew)
    refine (HPU.out w1.drew hT1.map).mono ?_
    rintro e w2 ⟨rfl, hm2, hg2⟩
    have HF := Lib.hid (And.intro (hT1.grown hm2 hg2) (grown_trans (grown_below (row := some bm) (H1.out.1.drew)) hg2))
    clear hm2 hg2 hT1 x0 x1 x2 x3 q0
    go_wp2_with fail
    go_ret
    exact ⟨rfl, by have := HPT.out; simp at this; rw [this]; exact HF.out.1, HF.out.2⟩
  · have a0 : (ans == 0) = false := by rw [beq_eq_false_iff_ne]; exact ha
    have HA := Lib.hid ha; clear ha
    go_wp2_with fail
    go_ret
    exact ⟨rfl, by have := HPT.out; simp [HA.out] at this; rw [this]; exact H1.out.2.2, grown_below H1.out.1⟩
theorem dropT_len (xs : List NE) (p : ByteArray) : (dropT xs p).length ≤ xs.length := by
  unfold dropT
  split
  · exact dropN_len p xs
  · omega
set_option maxRecDepth 100000 in
set_option maxHeartbeats 4000000 in
theorem treeDrop_any (w : World) (bt bm : Nat) (xs : List NE) (p : ByteArray) (h : TreeAt w bt bm xs) (hn : xs.length ≤ 1000000) (hp : p.size ≤ 90000) :
    Calls Tryz.prog 10 #[.pointer (some ⟨bt, 0, none⟩), .string p] w fun e w' => e = .returned (.int .i64 (whyDrop xs p)) ∧ TreeAt w' bt bm (dropT xs p) ∧ w.grownBy w' (some bm) := by
  have HHO := Lib.hid (fun W (h : TreeAt W bt bm xs) => treeHolds_any W bt bm xs p h hn hp)
  have HGE := Lib.hid (treeGet_any w bt bm xs p h hn hp)
  have HDR := Lib.hid (fun W (h : SMapSN W bm xs) => srtDropSN_any W bm xs p h hn hp)
  have H0 := Lib.hid h; clear h
  have hfld := nodeField0
  have HWY := Lib.hid (show whyDrop xs p = if (getT xs p).kind = 0 then 7 else if holdsT xs p = true then 8 else 0 from rfl)
  have HDT := Lib.hid (show dropT xs p = if whyDrop xs p = 0 then dropN ordS p xs else xs from rfl)
  generalize whyDrop xs p = ans at *
  generalize dropT xs p = zs at *
  generalize holdsT xs p = ho at *
  generalize getT xs p = gn at *
  generalize inN ordS p xs = bi at *
  obtain ⟨gk, gm, gt, gd⟩ := gn
  unfold Nd.c at *
  simp only at HGE HWY
  clear hp
  go_enter Tryz.func10, Tryz.ntmps10
  go_wp2_with fail
  refine HGE.out.mono ?_
  rintro e w1 ⟨rfl, hb1⟩
  have H1 := Lib.hid (And.intro hb1 (H0.out.below hb1)); clear hb1 H0 HGE
  by_cases g0 : gk = 0
  · subst g0
    have hans : ans = 7 := by simpa using HWY.out
    subst hans
    go_wp2_with fail
    go_ret
    exact ⟨rfl, by have := HDT.out; simp at this; rw [this]; exact H1.out.2, grown_below H1.out.1⟩
  · have e0 : (gk == 0) = false := by rw [beq_eq_false_iff_ne]; exact g0
    have HG0 := Lib.hid g0; clear g0
    have HH1 := Lib.hid (HHO.out w1 H1.out.2)
    go_wp2_with fail
    refine HH1.out.mono ?_
    rintro e w2 ⟨rfl, hb2⟩
    have H2 := Lib.hid (And.intro (H1.out.1.trans (hb2.mono H1.out.1.size)) (H1.out.2.below hb2)); clear hb2 H1 HH1
    cases ho with
    | true =>
      have hans : ans = 8 := by simpa [HG0.out] using HWY.out
      subst hans
      go_wp2_with fail
      go_ret
      exact ⟨rfl, by have := HDT.out; simp at this; rw [this]; exact H2.out.2, grown_below H2.out.1⟩
    | false =>
      have hans : ans = 0 := by simpa [HG0.out] using HWY.out
      subst hans
      have q0 := H2.out.2.box.cell 0
      simp at q0
      have HD2 := Lib.hid (HDR.out w2 H2.out.2.map)
      go_wp2_with fail
      refine HD2.out.mono ?_
      rintro e w3 ⟨rfl, hm3, hg3⟩
      have HF := Lib.hid (And.intro (H2.out.2.grown hm3 hg3) (grown_trans (grown_below (row := some bm) H2.out.1) hg3))
      clear hm3 hg3 q0
      go_wp2_with fail
      go_ret
      exact ⟨rfl, by have := HDT.out; simp at this; rw [this]; exact HF.out.1, HF.out.2⟩
end Go.Proofs.YtcpmhjealiajpaaGreatDoor
/- The contract of the reference's Before. -/
set_option linter.unusedVariables false
set_option linter.unusedSimpArgs false
namespace Go.Proofs.YtcpmhjealiajpaaGreatDoor
open Go Go.RowKit
open Sw
open Go.Lib (compareBytes)
set_option maxRecDepth 100000 in
set_option maxHeartbeats 4000000 in
theorem refBefore_any (w : World) (p q : ByteArray) (hp : p.size ≤ 100000) (hq : q.size ≤ 100000) :
    Calls Tryz.prog 92 #[.string p, .string q] w fun e w' => e = .returned (.bool (decide (ordS p q = -1))) ∧ Below w.heap.size w w' := by
  have HP := Lib.hid (refParts_any w p hp)
  have HQ := Lib.hid (fun W => refParts_any W q hq)
  have hpl := wt_len (partsS p)
  have hql := wt_len (partsS q)
  have hpw := partsS_wt p
  have hqw := partsS_wt q
  have ho : ordS p q = if (partsS p).length = 0 ∧ (partsS q).length = 0 then compareBytes p.data.toList q.data.toList else cL (partsS p) (partsS q) := rfl
  have hls := less_str p q
  generalize ordS p q = R at *
  generalize hl : partsS p = l at *
  generalize hm : partsS q = m at *
  clear hl hm
  have hat := fun k => cL_at k l m
  have hout := fun k => cL_out k l m
  have hout2 := fun k => cL_out2 k l m
  have htk : ∀ k, l.take k = m.take k → ∀ (k1 : k < l.length) (k2 : k < m.length), compareBytes l[k].data.toList m[k].data.toList = 0 → l.take (k + 1) = m.take (k + 1) := fun k h k1 k2 hc => by
    rw [List.take_succ_eq_append_getElem k1, List.take_succ_eq_append_getElem k2, h, dat_inj (cb_zero _ _ hc)]
  obtain ⟨N, hN⟩ : ∃ N, l.length = N := ⟨_, rfl⟩
  obtain ⟨M, hM⟩ : ∃ M, m.length = M := ⟨_, rfl⟩
  rw [hN] at ho hpl
  rw [hM] at ho hql
  rw [hN, hM] at hout hout2
  have HA := Lib.hid (And.intro hat (And.intro hout (And.intro hout2 htk))); clear hat hout hout2 htk
  have HL := Lib.hid (And.intro hN hM); clear hN hM
  have hN6 : N ≤ 1000000 := by omega
  have hM6 : M ≤ 1000000 := by omega
  clear hpl hql hpw hqw
  go_enter Tryz.func92, Tryz.ntmps92
  go_wp2_with fail
  refine HP.out.mono ?_
  rintro e w1 ⟨v1, rfl, ow1, hb1⟩
  obtain ⟨A1, c1, rfl, hc1, hm1, s1⟩ := SlV.of_own ow1 bE_len (by omega)
  go_wp2_with fail
  refine (HQ.out _).mono ?_
  rintro e w2 ⟨v2, rfl, ow2, hb2⟩
  obtain ⟨A2, c2, rfl, hc2, hm2, s2⟩ := SlV.of_own ow2 bE_len (by omega)
  have hbw := hb1.trans (hb2.mono hb1.size)
  have HS := Lib.hid (And.intro (s1.below hb2 (Nat.le_refl _)) s2)
  rw [HL.out.1] at hc1 ⊢
  rw [HL.out.2] at hc2 ⊢
  unfold maxLen at hm1 hm2
  clear s1 s2 ow1 ow2
  by_cases h0 : N = 0 ∧ M = 0
  · rw [if_pos h0] at ho
    obtain ⟨h1, h2⟩ := h0
    have n1 : ((N : Int) == 0) = true := by rw [beq_iff_eq]; omega
    have n2 : ((M : Int) == 0) = true := by rw [beq_iff_eq]; omega
    subst ho
    clear h1 h2
    go_wp2_with fail
    go_ret
    exact ⟨by rw [← hls]; first | done | rfl, hbw⟩
  · rw [if_neg h0] at ho
    rw [← ho] at HA
    clear ho hls
    have HR := Lib.hid h0; clear h0
    go_upto_region 2 with fail
    go_cut [19] from 11 to 19 (fun b wx => b = .bool false ∧ wx = w2)
    case first =>
      by_cases h1 : N = 0
      · have h2 : ¬ M = 0 := fun e => HR.out ⟨h1, e⟩
        have n1 : ((N : Int) == 0) = true := by rw [beq_iff_eq]; omega
        have n2 : ((M : Int) == 0) = false := by rw [beq_eq_false_iff_ne]; omega
        clear h1 h2
        go_wp2_with fail
        go_meet
        exact ⟨rfl, rfl⟩
      · have n1 : ((N : Int) == 0) = false := by rw [beq_eq_false_iff_ne]; omega
        clear h1
        go_wp2_with fail
        go_meet
        exact ⟨rfl, rfl⟩
    case rest =>
      obtain ⟨rfl, rfl⟩ := hcut
      go_wp2_with fail
      go_loopw [4, 7] (fun r iv wr => ∃ k n : Nat, k ≤ N ∧ k ≤ M ∧ r = .bool false ∧ iv = .int .i64 k ∧ l.take k = m.take k ∧ wr = wc.drewN n) (fun _ iv _ => N - (intOf iv).toNat)
      case atStart => exact ⟨0, 0, Nat.zero_le _, Nat.zero_le _, rfl, rfl, by simp, rfl⟩
      case round =>
        obtain ⟨k, n, hkN, hkM, rfl, rfl, htk, rfl⟩ := hrel
        have HT := Lib.hid htk; clear htk
        have bD : Below w.heap.size w (wc.drewN n) := below_drewN hbw n
        by_cases hlt : k < N
        · have i1 : (k : Int) < N := by omega
          have k1 : k < l.length := by have := HL.out; omega
          by_cases hlt2 : k < M
          · have i2 : (k : Int) < M := by omega
            have k2 : k < m.length := by have := HL.out; omega
            obtain ⟨b1, o1, rfl, _, q1⟩ := HS.out.1 (by omega)
            have g1 := q1 k k1 0 (by omega)
            obtain ⟨b2, o2, rfl, _, q2⟩ := HS.out.2 (by omega)
            have g2 := q2 k k2 0 (by omega)
            simp [bE] at g1 g2
            have HX := Lib.hid (HA.out.1 k HT.out k1 k2)
            have HY := Lib.hid (HA.out.2.2.2 k HT.out k1 k2)
            have he := eq_str l[k] m[k]
            have hls := less_str l[k] m[k]
            clear q1 q2
            generalize l[k] = x at *
            generalize m[k] = y at *
            generalize compareBytes x.data.toList y.data.toList = cc at *
            have i0 : (0 : Int) ≤ k := by omega
            by_cases hc0 : cc = 0
            · have HNX := Lib.hid (HY.out hc0)
              rw [decide_eq_true hc0] at he
              clear hls
              have HC0 := Lib.hid hc0; clear hc0
              go_wp2_with fail
              go_quiet (fail)
              go_wp2_with fail
              go_roundw
              case rel => exact ⟨k + 1, n + nq, by omega, by omega, rfl, by go_num, HNX.out, rfl⟩
              case measure => simp [intOf]; omega
            · have hR : R = cc := by have := HX.out; rw [if_neg hc0] at this; exact this
              subst hR
              rw [decide_eq_false hc0] at he
              have HLS := Lib.hid hls; clear hls hc0
              go_wp2_with fail
              go_quiet (fail)
              go_wp2_with fail
              go_quiet (fail)
              go_wp2_with fail
              go_ret
              exact ⟨by rw [← HLS.out]; first | done | rfl, below_drewN (below_drewN bD _) _⟩
          · obtain rfl : k = M := by omega
            have hR := HA.out.2.2.1 k HT.out rfl hlt
            subst hR
            have i2 : ¬ (N : Int) < k := by omega
            clear hlt hlt2
            go_wp2_with fail
            go_ret
            exact ⟨rfl, bD⟩
        · obtain rfl : k = N := by omega
          have hR := HA.out.2.1 k HT.out rfl
          clear hlt
          by_cases hkm : k < M
          · rw [if_pos hkm] at hR
            subst hR
            have i3 : (k : Int) < M := by omega
            go_wp2_with fail
            go_ret
            exact ⟨rfl, bD⟩
          · rw [if_neg hkm] at hR
            subst hR
            have i3 : ¬ (k : Int) < M := by omega
            go_wp2_with fail
            go_ret
            exact ⟨rfl, bD⟩
end Go.Proofs.YtcpmhjealiajpaaGreatDoor
