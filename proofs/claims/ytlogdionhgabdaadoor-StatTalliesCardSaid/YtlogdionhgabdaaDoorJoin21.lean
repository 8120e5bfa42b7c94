/- Several texts, joined for the limit of sixty files; each one opens with its own comment. -/
import Derived.Test.YtlogdionhgabdaaDoorJoin18
import Derived.Deep.RegionLaw
/- slices.Insert of one element into a row of sorted.entry[int,int] that the call owns. -/
set_option linter.unusedVariables false
set_option linter.unusedSimpArgs false
namespace Go.Proofs.YtlogdionhgabdaaDoor
open Go Go.RowKit
open Sw
/-- behind the call: a row with one more element -/
def InsPostII (base n : Nat) (xs : List Value) (row : Option Nat) (w : World) (e : Ending) (w' : World) : Prop :=
  ∃ g cap, e = .returned (.slice (some ⟨g, 0, none⟩) (n + 1) cap) ∧ w'.ownsRow base 56 2 (.slice (some ⟨g, 0, none⟩) (n + 1) cap) (n + 1) xs ∧ w.grownBy w' row ∧ (row = some g ∨ w.heap.size ≤ g)
set_option maxRecDepth 100000 in
set_option maxHeartbeats 2000000 in
/-- at the end -/
theorem slInsertII_end (w : World) (base : Nat) (v : Value) (n vb : Nat) (xs : List Value) (te : TypeId) (cx : Array Value) (hown : w.ownsRow base 56 2 v n xs) (hvb : Blk w vb te cx) (hcx : cx.size = 2) (h1x : ∀ u ∈ cx.toList, u.oneCell' = true) (hn : n + 1 ≤ 1000000) (hbase : base ≤ w.heap.size) :
    Calls Tryd.prog 26 #[v, .int .i64 n, .slice (some ⟨vb, 0, none⟩) 1 1] w (InsPostII base n (xs ++ cx.toList) v.ownBlock w) := by
  have hfin : ∀ g cap w', w'.ownsRow base 56 2 (.slice (some ⟨g, 0, none⟩) (n + 1) cap) (n + 1) (xs ++ cx.toList) → w.grownBy w' v.ownBlock → (v.ownBlock = some g ∨ g = w.heap.size) →
      InsPostII base n (xs ++ cx.toList) v.ownBlock w (.returned (.slice (some ⟨g, 0, none⟩) (n + 1) cap)) w' := fun g cap w' h1 h2 h3 => ⟨g, cap, rfl, h1, h2, by rcases h3 with h | h; exact .inl h; exact .inr (by omega)⟩
  have HF := Lib.hid hfin; clear hfin
  have HO := Lib.hid hown
  have HB := Lib.hid hvb; clear hvb
  rcases hown.2 with ⟨rfl, rfl⟩ | ⟨g, cap, cur, rfl, hbg, hg, hnc, hcm, hcs, htk⟩
  · clear hown
    go_enter Tryd.func26, Tryd.ntmps26
    go_wp2_with (at_builtin; refine wpList_app rfl _ _ 52 rfl base 56 (.agg #[.int .i64 0, .int .i64 0]) 2 16 Tryd.underlying52 infoEII rfl (by decide) _ 0 xs rfl HO.out vb 1 cx te rfl HB.out hcx h1x (by omega) (by decide) hbase _ rfl ?_; intro g cap w1 hown1 hgrow1 hat hlt)
    have HP := Lib.hid (HF.out g cap w1 hown1 hgrow1 hat); clear hown1 hgrow1 hat
    go_wp2_with fail
    go_ret
    exact HP.out
  · clear hown htk hg hcs
    unfold maxLen at hcm
    go_enter Tryd.func26, Tryd.ntmps26
    go_wp2_with (at_builtin; refine wpList_app rfl _ _ 52 rfl base 56 (.agg #[.int .i64 0, .int .i64 0]) 2 16 Tryd.underlying52 infoEII rfl (by decide) _ n xs rfl HO.out vb 1 cx te rfl HB.out hcx h1x (by omega) (by decide) hbase _ rfl ?_; intro g cap w1 hown1 hgrow1 hat hlt)
    all_goals
      have HP := Lib.hid (HF.out _ _ w1 hown1 hgrow1 hat); clear hown1 hgrow1 hat
      go_wp2_with fail
      go_ret
      exact HP.out
set_option maxRecDepth 100000 in
set_option maxHeartbeats 4000000 in
/-- in the midst, where there is room -/
theorem slInsertII_room (w : World) (base g cap n i vb : Nat) (cur : Array Value) (te : TypeId) (cx : Array Value) (hbg : base ≤ g) (hg : Blk w g 56 cur) (hcs : cur.size = cap * 2) (h1c : ∀ u ∈ cur.toList.take (n * 2), u.oneCell' = true) (hvb : Blk w vb te cx) (hne : vb ≠ g) (hcx : cx.size = 2) (h1x : ∀ u ∈ cx.toList, u.oneCell' = true) (hi : i < n) (hroom : n + 1 ≤ cap) (hcm : cap ≤ maxLen) :
    Calls Tryd.prog 26 #[.slice (some ⟨g, 0, none⟩) n cap, .int .i64 i, .slice (some ⟨vb, 0, none⟩) 1 1] w
      (InsPostII base n (cur.toList.take (i * 2) ++ cx.toList ++ (cur.toList.take (n * 2)).drop (i * 2)) (some g) w) := by
  have hov : ∀ lb cb W, Blk W g 56 cur → Blk W vb te cx → (callFunc 37 #[.slice (some ⟨vb, 0, none⟩) 1 1, .slice (some ⟨g, (i + 1) * 2, none⟩) lb cb]).run Tryd.prog W = .ok (.value (.bool false)) W := fun lb cb W h1 h2 => by
    rw [run_callFunc_extern Tryd.func37 (by kernel_rfl) (by kernel_rfl) (by kernel_rfl) (e := Extern.SlicesOverlaps.overlaps #[52, 52] #[4]) (by kernel_rfl),
      Lib.run_overlaps_apart W 52 4 56 Tryd.underlying52 2 Tryd.sizeOf56 ⟨vb, 0, none⟩ ⟨g, (i + 1) * 2, none⟩ 1 1 lb cb hne te 56 cx.size cur.size h2.shape h1.shape (by rw [hcs]; omega) (h2.frozen 0) (h2.frozen cx.size)]
    rfl
  unfold maxLen at hcm
  have hc1 : cur.toList.length = cap * 2 := by rw [Array.length_toList]; exact hcs
  obtain ⟨q1, q2, q3, q4⟩ := ins_cells cur.toList cx.toList (i * 2) (n * 2) 2 (by omega) (by omega) (by simpa using hcx)
  obtain ⟨cs, hcsd⟩ : ∃ cs, (cur.toList.take (n * 2)).drop (i * 2) = cs := ⟨_, rfl⟩
  simp only [hcsd] at q1 q2 q3 q4
  rw [hcsd]
  obtain ⟨W1, hW1⟩ : ∃ W1, w.drew.setRow g (cur.toList.take ((i + 1) * 2) ++ cs ++ cur.toList.drop ((i + 1) * 2 + cs.length)).toArray = W1 := ⟨_, rfl⟩
  have hcp1 : ∀ ty dc sc, (Builtin.copy_ #[52, 52] ty #[.slice (some ⟨g, (i + 1) * 2, none⟩) (n - i) dc, .slice (some ⟨g, i * 2, none⟩) (n + 1 - i) sc]).run Tryd.prog w.drew = .ok (goInt (n - i : Nat)) W1 := fun ty dc sc => by
    rw [← hW1]
    refine run_copy_rows w.drew _ _ ty 56 2 g _ _ dc _ _ sc cur 56 cs (n - i) Tryd.underlying52 (by kernel_rfl) hg.drew (by simp only [Nat.min_def]; split <;> omega) (by rw [q4]; omega) (fun j v hj => ?_) (by rw [q4]; omega) (fun v hv => h1c v ?_)
    · refine hg.drew.at _ j v ?_
      rw [← hcsd] at hj
      rw [List.getElem?_drop, List.getElem?_take] at hj
      split at hj
      · rw [List.getElem?_drop]; exact hj
      · cases hj
    · rw [← hcsd] at hv; exact List.mem_of_mem_drop hv
  have hg1 : Blk W1 g 56 (cur.toList.take ((i + 1) * 2) ++ cs ++ cur.toList.drop ((i + 1) * 2 + cs.length)).toArray := by rw [← hW1]; exact hg.drew.setRow _
  have hgr1 : w.grownBy W1 (some g) := by rw [← hW1]; exact grown_of_drew (grown_setRow _ _ _)
  have hvb1 : Blk W1 vb te cx := hvb.grown hgr1 (by simpa using hne)
  rw [show i * 2 + 2 = (i + 1) * 2 by omega] at q1 q2 q3
  generalize hr1 : cur.toList.take ((i + 1) * 2) ++ cs ++ cur.toList.drop ((i + 1) * 2 + cs.length) = r1 at *
  obtain ⟨W2, hW2⟩ : ∃ W2, W1.setRow g (r1.take (i * 2) ++ cx.toList ++ r1.drop (i * 2 + cx.toList.length)).toArray = W2 := ⟨_, rfl⟩
  have hcp2 : ∀ ty dc, (Builtin.copy_ #[52, 52] ty #[.slice (some ⟨g, i * 2, none⟩) (n + 1 - i) dc, .slice (some ⟨vb, 0, none⟩) 1 1]).run Tryd.prog W1 = .ok (goInt (1 : Nat)) W2 := fun ty dc => by
    rw [← hW2]
    have := run_copy_rows (P := Tryd.prog) W1 52 52 ty 56 2 g (i * 2) (n + 1 - i) dc ⟨vb, 0, none⟩ 1 1 r1.toArray 56 cx.toList 1 Tryd.underlying52 (by kernel_rfl) hg1 (by simp only [Nat.min_def]; split <;> omega) (by simpa using hcx) (World.news_of_block hvb1) (by rw [List.size_toArray, q3, Array.length_toList]; omega) h1x
    simpa using this
  have hg2 : Blk W2 g 56 (r1.take (i * 2) ++ cx.toList ++ r1.drop (i * 2 + cx.toList.length)).toArray := by rw [← hW2]; exact hg1.setRow _
  have hgr2 : w.grownBy W2 (some g) := by rw [← hW2]; exact grown_trans hgr1 (grown_setRow _ _ _)
  have hfin : InsPostII base n (cur.toList.take (i * 2) ++ cx.toList ++ cs) (some g) w (.returned (.slice (some ⟨g, 0, none⟩) (n + 1) cap)) W2 :=
    ⟨g, cap, rfl, own_mk hbg hg2 hroom (by unfold maxLen; omega) (by rw [List.size_toArray, q2, hc1]) (by rw [List.toList_toArray, ← q1]; congr 1; omega), hgr2, .inl rfl⟩
  have HF := Lib.hid hfin; clear hfin
  clear hgr1 hgr2 hg2 hg1 hvb1 hW1 hW2 q1 q2 q3 q4 hcsd hc1 hr1 h1c h1x
  have HV := Lib.hid (fun lb cb => hov lb cb w hg hvb); clear hov
  have hz1 : ¬ ((i : Int) = (n : Int)) := by omega
  have hw1 : IntKind.i64.wrap ((i : Int) + 1) = (i : Int) + 1 := by rw [IntKind.wrap_i64]; omega
  have hb1 : (0 : Int) ≤ (i : Int) + 1 := by omega
  have hin : i ≤ n := by omega
  have htn : ((i : Int) + 1).toNat = i + 1 := by omega
  have hb2 : ¬ (cap = i + 1) := by omega
  have hb3 : (i : Int) ≤ (n : Int) + 1 := by omega
  have hb4 : ¬ (cap = i) := by omega
  have hb5 : ¬ (cap : Int) < n + 1 := by omega
  clear hcs
  go_enter Tryd.func26, Tryd.ntmps26
  go_wp2_with (simp only [HV.out])
  go_region_law (refine step_copy_rows rfl _ _ 52 52 rfl _ _ (by simp [Act.eval, Act.put]) (by simp [Act.eval, Act.put]) (hcp1 _ _ _) ?_)
  go_wp2_with (at_builtin; refine wpList_copy_rows _ rfl _ _ 52 52 rfl _ _ rfl rfl (hcp2 _ _) ?_)
  go_ret
  exact HF.out
set_option maxRecDepth 100000 in
set_option maxHeartbeats 4000000 in
/-- in the midst, where there is no room -/
theorem slInsertII_grow (w : World) (base g cap n i vb : Nat) (cur : Array Value) (te : TypeId) (cx : Array Value) (hg : Blk w g 56 cur) (hcs : cur.size = cap * 2) (h1c : ∀ u ∈ cur.toList.take (n * 2), u.oneCell' = true) (hvb : Blk w vb te cx) (hcx : cx.size = 2) (h1x : ∀ u ∈ cx.toList, u.oneCell' = true) (hi : i < n) (hnc : n ≤ cap) (hroom : cap < n + 1) (hn : n + 1 ≤ 1000000) (hbase : base ≤ w.heap.size) :
    Calls Tryd.prog 26 #[.slice (some ⟨g, 0, none⟩) n cap, .int .i64 i, .slice (some ⟨vb, 0, none⟩) 1 1] w
      (InsPostII base n (cur.toList.take (i * 2) ++ cx.toList ++ (cur.toList.take (n * 2)).drop (i * 2)) (some g) w) := by
  obtain rfl : cap = n := by omega
  obtain ⟨i0, hi0, hz0, hzs, hzb⟩ := info_parts infoEII
  have hc1 : cur.toList.length = cap * 2 := by rw [Array.length_toList]; exact hcs
  have htk : cur.toList.take (cap * 2) = cur.toList := List.take_of_length_le (by omega)
  rw [htk] at h1c ⊢
  have hold : (Builtin.firstCells i0.size i (.slice (some ⟨g, 0, none⟩) i cap)).run Tryd.prog w.drew = .ok (cur.toList.take (i * 2)).toArray w.drew := by
    rw [hzs]
    exact run_firstCells_some w.drew 2 i ⟨g, 0, none⟩ i cap (cur.toList.take (i * 2)) (by rw [List.length_take]; omega) (fun j v hj => by
      refine hg.drew.at 0 j v ?_
      rw [List.getElem?_take] at hj
      split at hj
      · rw [List.drop_zero]; exact hj
      · cases hj)
  obtain ⟨G, hG⟩ : ∃ G, grownCap w (cap + 1) cap 56 = G := ⟨_, rfl⟩
  have hGn : cap + 1 ≤ G := by rw [← hG]; exact grownCap_ge w _ _ _
  have hG63 : G ≤ maxLen := by rw [← hG]; exact grownCap_le_maxLen w (cap + 1) cap 56 (by unfold maxLen; omega)
  obtain ⟨R, hR⟩ : ∃ R : Array Value, (cur.toList.take (i * 2)).toArray ++ Builtin.zeroCells (Value.cells (.agg #[.int .i64 0, .int .i64 0])) (cap + 1 - i) ++ Builtin.zeroCells (Value.cells (.agg #[.int .i64 0, .int .i64 0])) (G - (cap + 1)) = R := ⟨_, rfl⟩
  have hRl : R.size = G * 2 := by
    rw [← hR]
    simp only [Array.size_append, List.size_toArray, List.length_take, size_zeroCells, hc1]
    simp [Value.cells]
    omega
  have hRL : R.toList.length = G * 2 := by rw [Array.length_toList, hRl]
  have hRt : R.toList.take (i * 2) = cur.toList.take (i * 2) := by
    rw [← hR, Array.toList_append, Array.toList_append, List.toList_toArray, List.append_assoc, List.take_append_of_le_length (by rw [List.length_take]; omega), List.take_take, Nat.min_self]
  obtain ⟨W0, hW0⟩ : ∃ W0, w.drew.alloc (.cells R 56) = W0 := ⟨_, rfl⟩
  have hrz : ∀ ty, (Builtin.append_ #[52, 3] ty #[.slice (some ⟨g, 0, none⟩) i cap, .int .i64 ((cap : Int) + 1 - (i : Int))]).run Tryd.prog w = .ok (.slice (some ⟨w.heap.size, 0, none⟩) (cap + 1) G) W0 := fun ty => by
    have hik : i + (cap + 1 - i) = cap + 1 := by omega
    have h := Lib.run_append_grow_zeros w 52 3 ty 56 i0 _ .i64 .i64 Tryd.underlying52 Tryd.underlying3 hi0 hz0 (some ⟨g, 0, none⟩) i cap (cur.toList.take (i * 2)) hold (cap + 1 - i) (by omega) (by omega) (by omega) (by omega) (by rw [hzb]; omega) (by rw [hzb, hik]; exact growslice_fits (by omega) (by omega))
    rw [hik] at h
    rw [show (cap : Int) + 1 - (i : Int) = ((cap + 1 - i : Nat) : Int) by omega, h, hG, hR, hW0]
  have hb0 : Below w.heap.size w W0 := by rw [← hW0]; exact ((Below.refl _ w).drew).alloc (Nat.le_refl _) _
  have hg0 : Blk W0 w.heap.size 56 R := by rw [← hW0]; exact Blk.new w.drew _ _
  have hgl := hg.lt
  have hvl := hvb.lt
  have hga : Blk W0 g 56 cur := hg.below hb0 hgl
  have hva : Blk W0 vb te cx := hvb.below hb0 hvl
  have hdl : (cur.toList.drop (i * 2)).length = (cap - i) * 2 := by rw [List.length_drop]; omega
  obtain ⟨p1, p2, p3⟩ := ins_cells2 R.toList cx.toList (cur.toList.drop (i * 2)) (i * 2) 2 (by rw [hdl, Array.length_toList, hRl]; omega) (by simpa using hcx)
  generalize hr1 : R.toList.take (i * 2) ++ cx.toList ++ R.toList.drop (i * 2 + cx.toList.length) = r1 at *
  obtain ⟨W1, hW1⟩ : ∃ W1, W0.setRow w.heap.size r1.toArray = W1 := ⟨_, rfl⟩
  have hcp1 : ∀ ty dc, (Builtin.copy_ #[52, 52] ty #[.slice (some ⟨w.heap.size, i * 2, none⟩) (cap + 1 - i) dc, .slice (some ⟨vb, 0, none⟩) 1 1]).run Tryd.prog W0 = .ok (goInt (1 : Nat)) W1 := fun ty dc => by
    rw [← hW1, ← hr1]
    exact run_copy_rows (P := Tryd.prog) W0 52 52 ty 56 2 w.heap.size (i * 2) (cap + 1 - i) dc ⟨vb, 0, none⟩ 1 1 R 56 cx.toList 1 Tryd.underlying52 (by kernel_rfl) hg0 (by simp only [Nat.min_def]; split <;> omega) (by simpa using hcx) (World.news_of_block hva) (by rw [hRl, Array.length_toList, hcx]; omega) h1x
  have hg1 : Blk W1 w.heap.size 56 r1.toArray := by rw [← hW1]; exact hg0.setRow _
  have hb1 : Below w.heap.size w W1 := by rw [← hW1]; exact hb0.grown (grown_setRow _ _ _) hb0.size (fun k hk => by cases hk; exact Nat.le_refl _)
  have hga1 : Blk W1 g 56 cur := hg.below hb1 hgl
  obtain ⟨W2, hW2⟩ : ∃ W2, W1.drew.setRow w.heap.size (r1.take ((i + 1) * 2) ++ cur.toList.drop (i * 2) ++ r1.drop ((i + 1) * 2 + (cur.toList.drop (i * 2)).length)).toArray = W2 := ⟨_, rfl⟩
  have hcp2 : ∀ ty dc sc, (Builtin.copy_ #[52, 52] ty #[.slice (some ⟨w.heap.size, (i + 1) * 2, none⟩) (cap - i) dc, .slice (some ⟨g, i * 2, none⟩) (cap - i) sc]).run Tryd.prog W1.drew = .ok (goInt (cap - i : Nat)) W2 := fun ty dc sc => by
    rw [← hW2]
    have := run_copy_rows (P := Tryd.prog) W1.drew 52 52 ty 56 2 w.heap.size ((i + 1) * 2) (cap - i) dc ⟨g, i * 2, none⟩ (cap - i) sc r1.toArray 56 (cur.toList.drop (i * 2)) (cap - i) Tryd.underlying52 (by kernel_rfl) hg1.drew (by simp only [Nat.min_def]; split <;> omega) hdl (hga1.drew.at _) (by rw [List.size_toArray, p3, hRL]; omega) (fun v hv => h1c v (List.mem_of_mem_drop hv))
    simpa using this
  have hg2 : Blk W2 w.heap.size 56 (r1.take ((i + 1) * 2) ++ cur.toList.drop (i * 2) ++ r1.drop ((i + 1) * 2 + (cur.toList.drop (i * 2)).length)).toArray := by rw [← hW2]; exact hg1.drew.setRow _
  have hb2 : Below w.heap.size w W2 := by rw [← hW2]; exact (below_drewN hb1 1).grown (grown_setRow _ _ _) hb1.size (fun k hk => by cases hk; exact Nat.le_refl _)
  rw [show i * 2 + 2 = (i + 1) * 2 by omega] at p1 p2
  rw [hRt] at p1
  have hfin : InsPostII base cap (cur.toList.take (i * 2) ++ cx.toList ++ cur.toList.drop (i * 2)) (some g) w (.returned (.slice (some ⟨w.heap.size, 0, none⟩) (cap + 1) G)) W2 :=
    ⟨w.heap.size, G, rfl, own_mk hbase hg2 hGn hG63 (by rw [List.size_toArray, p2, Array.length_toList, hRl]) (by rw [List.toList_toArray, ← p1]; congr 1; rw [hdl]; omega), ⟨hb2.os, hb2.tape, hb2.output, hb2.size, fun k hk _ => hb2.block k hk⟩, .inr (Nat.le_refl _)⟩
  have HF := Lib.hid hfin; clear hfin
  clear hb2 hg2 hb1 hg1 hga1 hb0 hg0 hga hva hW0 hW1 hW2 p1 p2 p3 hdl hr1 hRt hRl hR hG hold hi0 hz0 hzs hzb h1c h1x htk hc1 hg hvb hcs
  unfold maxLen at hG63
  have hz1 : ¬ ((i : Int) = (cap : Int)) := by omega
  have hw1 : IntKind.i64.wrap ((i : Int) + 1) = (i : Int) + 1 := by rw [IntKind.wrap_i64]; omega
  have hb1 : (0 : Int) ≤ (i : Int) + 1 := by omega
  have hin : i ≤ cap := by omega
  have htn : ((i : Int) + 1).toNat = i + 1 := by omega
  have hb2 : ¬ (cap = i + 1) ∨ cap = i + 1 := by omega
  have hb3 : (i : Int) ≤ (cap : Int) + 1 := by omega
  have hb4 : ¬ (cap = i) := by omega
  have hb5 : (cap : Int) < cap + 1 := by omega
  have hG1 : ¬ (G = i) := by omega
  have hG2 : ¬ (G = i + 1) := by omega
  clear hb2
  go_enter Tryd.func26, Tryd.ntmps26
  go_wp2_with (first
    | (at_builtin; refine Lib.wpList_append_run _ rfl _ _ _ _ rfl _ _ rfl rfl _ _ (hrz _) ?_)
    | (at_builtin; refine wpList_copy_rows _ rfl _ _ 52 52 rfl _ _ rfl rfl (hcp1 _ _) ?_))
  go_region_law (refine step_copy_rows rfl _ _ 52 52 rfl _ _ (by simp [Act.eval, Act.put]) (by simp [Act.eval, Act.put]) (hcp2 _ _ _) ?_)
  go_wp2_with fail
  go_ret
  exact HF.out
/-- one element more, at any place -/
theorem slInsertII_any (w : World) (base : Nat) (v : Value) (n i vb : Nat) (xs : List Value) (te : TypeId) (cx : Array Value) (hown : w.ownsRow base 56 2 v n xs) (h1c : ∀ u ∈ xs, u.oneCell' = true) (hvb : Blk w vb te cx) (hne : v.ownBlock ≠ some vb) (hcx : cx.size = 2) (h1x : ∀ u ∈ cx.toList, u.oneCell' = true) (hi : i ≤ n) (hn : n + 1 ≤ 1000000) (hbase : base ≤ w.heap.size) :
    Calls Tryd.prog 26 #[v, .int .i64 i, .slice (some ⟨vb, 0, none⟩) 1 1] w (InsPostII base n (xs.take (i * 2) ++ cx.toList ++ xs.drop (i * 2)) v.ownBlock w) := by
  by_cases hin : i = n
  · subst hin
    have hl := hown.1
    rw [List.take_of_length_le (by omega), List.drop_of_length_le (by omega), List.append_nil]
    exact slInsertII_end w base v i vb xs te cx hown hvb hcx h1x hn hbase
  · obtain ⟨g, cap, cur, rfl, hbg, hg, h1, h2, h3, h4⟩ := own_form hown (by omega)
    subst h4
    have ht : ∀ k, k ≤ n → (cur.toList.take (n * 2)).take (k * 2) = cur.toList.take (k * 2) := fun k hk => by rw [List.take_take]; congr 1; omega
    rw [ht i (by omega)]
    have hneg : vb ≠ g := fun e => hne (by rw [e]; rfl)
    by_cases hroom : n + 1 ≤ cap
    · exact slInsertII_room w base g cap n i vb cur te cx hbg hg h3 h1c hvb hneg hcx h1x (by omega) hroom h2
    · exact slInsertII_grow w base g cap n i vb cur te cx hg h3 h1c hvb hcx h1x (by omega) h1 (by omega) hn hbase
end Go.Proofs.YtlogdionhgabdaaDoor
