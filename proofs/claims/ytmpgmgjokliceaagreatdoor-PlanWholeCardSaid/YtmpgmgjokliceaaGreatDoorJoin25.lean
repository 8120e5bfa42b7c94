/- Several texts, joined for the limit of sixty files; each one opens with its own comment. -/
import Derived.Test.YtmpgmgjokliceaaGreatDoorJoin24
import Derived.Deep.RegionLaw
/- slices.Insert of one element into a row of sorted.entry[string,bool] that the call owns. -/
set_option linter.unusedVariables false
set_option linter.unusedSimpArgs false
namespace Go.Proofs.YtmpgmgjokliceaaGreatDoor
open Go Go.RowKit
open Sw
/-- behind the call: a row with one more element -/
def InsPostSB (base n : Nat) (xs : List Value) (row : Option Nat) (w : World) (e : Ending) (w' : World) : Prop :=
  ∃ g cap, e = .returned (.slice (some ⟨g, 0, none⟩) (n + 1) cap) ∧ w'.ownsRow base 152 2 (.slice (some ⟨g, 0, none⟩) (n + 1) cap) (n + 1) xs ∧ w.grownBy w' row ∧ (row = some g ∨ w.heap.size ≤ g)
set_option maxRecDepth 100000 in
set_option maxHeartbeats 2000000 in
/-- at the end -/
theorem slInsertSB_end (w : World) (base : Nat) (v : Value) (n vb : Nat) (xs : List Value) (te : TypeId) (cx : Array Value) (hown : w.ownsRow base 152 2 v n xs) (hvb : Blk w vb te cx) (hcx : cx.size = 2) (h1x : ∀ u ∈ cx.toList, u.oneCell' = true) (hn : n + 1 ≤ 1000000) (hbase : base ≤ w.heap.size) :
    Calls Tryz.prog 150 #[v, .int .i64 n, .slice (some ⟨vb, 0, none⟩) 1 1] w (InsPostSB base n (xs ++ cx.toList) v.ownBlock w) := by
  have hfin : ∀ g cap w', w'.ownsRow base 152 2 (.slice (some ⟨g, 0, none⟩) (n + 1) cap) (n + 1) (xs ++ cx.toList) → w.grownBy w' v.ownBlock → (v.ownBlock = some g ∨ g = w.heap.size) →
      InsPostSB base n (xs ++ cx.toList) v.ownBlock w (.returned (.slice (some ⟨g, 0, none⟩) (n + 1) cap)) w' := fun g cap w' h1 h2 h3 => ⟨g, cap, rfl, h1, h2, by rcases h3 with h | h; exact .inl h; exact .inr (by omega)⟩
  have HF := Lib.hid hfin; clear hfin
  have HO := Lib.hid hown
  have HB := Lib.hid hvb; clear hvb
  rcases hown.2 with ⟨rfl, rfl⟩ | ⟨g, cap, cur, rfl, hbg, hg, hnc, hcm, hcs, htk⟩
  · clear hown
    go_enter Tryz.func150, Tryz.ntmps150
    go_wp2_with (at_builtin; refine wpList_app rfl _ _ 149 rfl base 152 (.agg #[.string ⟨#[]⟩, .bool false]) 2 24 Tryz.underlying149 infoESB rfl (by decide) _ 0 xs rfl HO.out vb 1 cx te rfl HB.out hcx h1x (by omega) (by decide) hbase _ rfl ?_; intro g cap w1 hown1 hgrow1 hat hlt)
    have HP := Lib.hid (HF.out g cap w1 hown1 hgrow1 hat); clear hown1 hgrow1 hat
    go_wp2_with fail
    go_ret
    exact HP.out
  · clear hown htk hg hcs
    unfold maxLen at hcm
    go_enter Tryz.func150, Tryz.ntmps150
    go_wp2_with (at_builtin; refine wpList_app rfl _ _ 149 rfl base 152 (.agg #[.string ⟨#[]⟩, .bool false]) 2 24 Tryz.underlying149 infoESB rfl (by decide) _ n xs rfl HO.out vb 1 cx te rfl HB.out hcx h1x (by omega) (by decide) hbase _ rfl ?_; intro g cap w1 hown1 hgrow1 hat hlt)
    all_goals
      have HP := Lib.hid (HF.out _ _ w1 hown1 hgrow1 hat); clear hown1 hgrow1 hat
      go_wp2_with fail
      go_ret
      exact HP.out
set_option maxRecDepth 100000 in
set_option maxHeartbeats 4000000 in
/-- in the midst, where there is room -/
theorem slInsertSB_room (w : World) (base g cap n i vb : Nat) (cur : Array Value) (te : TypeId) (cx : Array Value) (hbg : base ≤ g) (hg : Blk w g 152 cur) (hcs : cur.size = cap * 2) (h1c : ∀ u ∈ cur.toList.take (n * 2), u.oneCell' = true) (hvb : Blk w vb te cx) (hne : vb ≠ g) (hcx : cx.size = 2) (h1x : ∀ u ∈ cx.toList, u.oneCell' = true) (hi : i < n) (hroom : n + 1 ≤ cap) (hcm : cap ≤ maxLen) :
    Calls Tryz.prog 150 #[.slice (some ⟨g, 0, none⟩) n cap, .int .i64 i, .slice (some ⟨vb, 0, none⟩) 1 1] w
      (InsPostSB base n (cur.toList.take (i * 2) ++ cx.toList ++ (cur.toList.take (n * 2)).drop (i * 2)) (some g) w) := by
  have hov : ∀ lb cb W, Blk W g 152 cur → Blk W vb te cx → (callFunc 198 #[.slice (some ⟨vb, 0, none⟩) 1 1, .slice (some ⟨g, (i + 1) * 2, none⟩) lb cb]).run Tryz.prog W = .ok (.value (.bool false)) W := fun lb cb W h1 h2 => by
    rw [run_callFunc_extern Tryz.func198 (by kernel_rfl) (by kernel_rfl) (by kernel_rfl) (e := Extern.SlicesOverlaps.overlaps #[149, 149] #[4]) (by kernel_rfl),
      Lib.run_overlaps_apart W 149 4 152 Tryz.underlying149 2 Tryz.sizeOf152 ⟨vb, 0, none⟩ ⟨g, (i + 1) * 2, none⟩ 1 1 lb cb hne te 152 cx.size cur.size h2.shape h1.shape (by rw [hcs]; omega) (h2.frozen 0) (h2.frozen cx.size)]
    rfl
  unfold maxLen at hcm
  have hc1 : cur.toList.length = cap * 2 := by rw [Array.length_toList]; exact hcs
  obtain ⟨q1, q2, q3, q4⟩ := ins_cells cur.toList cx.toList (i * 2) (n * 2) 2 (by omega) (by omega) (by simpa using hcx)
  obtain ⟨cs, hcsd⟩ : ∃ cs, (cur.toList.take (n * 2)).drop (i * 2) = cs := ⟨_, rfl⟩
  simp only [hcsd] at q1 q2 q3 q4
  rw [hcsd]
  obtain ⟨W1, hW1⟩ : ∃ W1, w.drew.setRow g (cur.toList.take ((i + 1) * 2) ++ cs ++ cur.toList.drop ((i + 1) * 2 + cs.length)).toArray = W1 := ⟨_, rfl⟩
  have hcp1 : ∀ ty dc sc, (Builtin.copy_ #[149, 149] ty #[.slice (some ⟨g, (i + 1) * 2, none⟩) (n - i) dc, .slice (some ⟨g, i * 2, none⟩) (n + 1 - i) sc]).run Tryz.prog w.drew = .ok (goInt (n - i : Nat)) W1 := fun ty dc sc => by
    rw [← hW1]
    refine run_copy_rows w.drew _ _ ty 152 2 g _ _ dc _ _ sc cur 152 cs (n - i) Tryz.underlying149 (by kernel_rfl) hg.drew (by simp only [Nat.min_def]; split <;> omega) (by rw [q4]; omega) (fun j v hj => ?_) (by rw [q4]; omega) (fun v hv => h1c v ?_)
    · refine hg.drew.at _ j v ?_
      rw [← hcsd] at hj
      rw [List.getElem?_drop, List.getElem?_take] at hj
      split at hj
      · rw [List.getElem?_drop]; exact hj
      · cases hj
    · rw [← hcsd] at hv; exact List.mem_of_mem_drop hv
  have hg1 : Blk W1 g 152 (cur.toList.take ((i + 1) * 2) ++ cs ++ cur.toList.drop ((i + 1) * 2 + cs.length)).toArray := by rw [← hW1]; exact hg.drew.setRow _
  have hgr1 : w.grownBy W1 (some g) := by rw [← hW1]; exact grown_of_drew (grown_setRow _ _ _)
  have hvb1 : Blk W1 vb te cx := hvb.grown hgr1 (by simpa using hne)
  rw [show i * 2 + 2 = (i + 1) * 2 by omega] at q1 q2 q3
  generalize hr1 : cur.toList.take ((i + 1) * 2) ++ cs ++ cur.toList.drop ((i + 1) * 2 + cs.length) = r1 at *
  obtain ⟨W2, hW2⟩ : ∃ W2, W1.setRow g (r1.take (i * 2) ++ cx.toList ++ r1.drop (i * 2 + cx.toList.length)).toArray = W2 := ⟨_, rfl⟩
  have hcp2 : ∀ ty dc, (Builtin.copy_ #[149, 149] ty #[.slice (some ⟨g, i * 2, none⟩) (n + 1 - i) dc, .slice (some ⟨vb, 0, none⟩) 1 1]).run Tryz.prog W1 = .ok (goInt (1 : Nat)) W2 := fun ty dc => by
    rw [← hW2]
    have := run_copy_rows (P := Tryz.prog) W1 149 149 ty 152 2 g (i * 2) (n + 1 - i) dc ⟨vb, 0, none⟩ 1 1 r1.toArray 152 cx.toList 1 Tryz.underlying149 (by kernel_rfl) hg1 (by simp only [Nat.min_def]; split <;> omega) (by simpa using hcx) (World.news_of_block hvb1) (by rw [List.size_toArray, q3, Array.length_toList]; omega) h1x
    simpa using this
  have hg2 : Blk W2 g 152 (r1.take (i * 2) ++ cx.toList ++ r1.drop (i * 2 + cx.toList.length)).toArray := by rw [← hW2]; exact hg1.setRow _
  have hgr2 : w.grownBy W2 (some g) := by rw [← hW2]; exact grown_trans hgr1 (grown_setRow _ _ _)
  have hfin : InsPostSB base n (cur.toList.take (i * 2) ++ cx.toList ++ cs) (some g) w (.returned (.slice (some ⟨g, 0, none⟩) (n + 1) cap)) W2 :=
    ⟨g, cap, rfl, own_mk hbg hg2 hroom (by unfold maxLen; omega) (by rw [List.size_toArray, q2, hc1]) (by rw [List.toList_toArray, ← q1]; congr 1; omega), hgr2, .inl rfl⟩
  have HF := Lib.hid hfin; clear hfin
  clear hgr1 hgr2 hg2 hg1 hvb1 hW1 hW2 q1 q2 q3 q4 hcsd hc1 hr1 h1c h1x
  have HV := Lib.hid (fun lb cb => hov lb cb w hg hvb); clear hov
  have hz1 : ¬ ((i : Int) = (n : Int)) := by omega
  have hw1 : IntKind.i64.wrap ((i : Int) + 1) = (i : Int) + 1 := by rw [IntKind.wrap_i64]; omega
  have hb1 : (0 : Int) ≤ (i : Int) + 1 := by omega
  have hin : i ≤ n := by omega
  have htn : ((i : Int) + 1).toNat = i + 1 := by omega
  have hb2 : ¬ (cap = i + 1) := by omega
  have hb3 : (i : Int) ≤ (n : Int) + 1 := by omega
  have hb4 : ¬ (cap = i) := by omega
  have hb5 : ¬ (cap : Int) < n + 1 := by omega
  clear hcs
  go_enter Tryz.func150, Tryz.ntmps150
  go_wp2_with (simp only [HV.out])
  go_region_law (refine step_copy_rows rfl _ _ 149 149 rfl _ _ (by simp [Act.eval, Act.put]) (by simp [Act.eval, Act.put]) (hcp1 _ _ _) ?_)
  go_wp2_with (at_builtin; refine wpList_copy_rows _ rfl _ _ 149 149 rfl _ _ rfl rfl (hcp2 _ _) ?_)
  go_ret
  exact HF.out
set_option maxRecDepth 100000 in
set_option maxHeartbeats 4000000 in
/-- in the midst, where there is no room -/
theorem slInsertSB_grow (w : World) (base g cap n i vb : Nat) (cur : Array Value) (te : TypeId) (cx : Array Value) (hg : Blk w g 152 cur) (hcs : cur.size = cap * 2) (h1c : ∀ u ∈ cur.toList.take (n * 2), u.oneCell' = true) (hvb : Blk w vb te cx) (hcx : cx.size = 2) (h1x : ∀ u ∈ cx.toList, u.oneCell' = true) (hi : i < n) (hnc : n ≤ cap) (hroom : cap < n + 1) (hn : n + 1 ≤ 1000000) (hbase : base ≤ w.heap.size) :
    Calls Tryz.prog 150 #[.slice (some ⟨g, 0, none⟩) n cap, .int .i64 i, .slice (some ⟨vb, 0, none⟩) 1 1] w
      (InsPostSB base n (cur.toList.take (i * 2) ++ cx.toList ++ (cur.toList.take (n * 2)).drop (i * 2)) (some g) w) := by
  obtain rfl : cap = n := by omega
  obtain ⟨i0, hi0, hz0, hzs, hzb⟩ := info_parts infoESB
  have hc1 : cur.toList.length = cap * 2 := by rw [Array.length_toList]; exact hcs
  have htk : cur.toList.take (cap * 2) = cur.toList := List.take_of_length_le (by omega)
  rw [htk] at h1c ⊢
  have hold : (Builtin.firstCells i0.size i (.slice (some ⟨g, 0, none⟩) i cap)).run Tryz.prog w.drew = .ok (cur.toList.take (i * 2)).toArray w.drew := by
    rw [hzs]
    exact run_firstCells_some w.drew 2 i ⟨g, 0, none⟩ i cap (cur.toList.take (i * 2)) (by rw [List.length_take]; omega) (fun j v hj => by
      refine hg.drew.at 0 j v ?_
      rw [List.getElem?_take] at hj
      split at hj
      · rw [List.drop_zero]; exact hj
      · cases hj)
  obtain ⟨G, hG⟩ : ∃ G, grownCap w (cap + 1) cap 152 = G := ⟨_, rfl⟩
  have hGn : cap + 1 ≤ G := by rw [← hG]; exact grownCap_ge w _ _ _
  have hG63 : G ≤ maxLen := by rw [← hG]; exact grownCap_le_maxLen w (cap + 1) cap 152 (by unfold maxLen; omega)
  obtain ⟨R, hR⟩ : ∃ R : Array Value, (cur.toList.take (i * 2)).toArray ++ Builtin.zeroCells (Value.cells (.agg #[.string ⟨#[]⟩, .bool false])) (cap + 1 - i) ++ Builtin.zeroCells (Value.cells (.agg #[.string ⟨#[]⟩, .bool false])) (G - (cap + 1)) = R := ⟨_, rfl⟩
  have hRl : R.size = G * 2 := by
    rw [← hR]
    simp only [Array.size_append, List.size_toArray, List.length_take, size_zeroCells, hc1]
    simp [Value.cells]
    omega
  have hRL : R.toList.length = G * 2 := by rw [Array.length_toList, hRl]
  have hRt : R.toList.take (i * 2) = cur.toList.take (i * 2) := by
    rw [← hR, Array.toList_append, Array.toList_append, List.toList_toArray, List.append_assoc, List.take_append_of_le_length (by rw [List.length_take]; omega), List.take_take, Nat.min_self]
  obtain ⟨W0, hW0⟩ : ∃ W0, w.drew.alloc (.cells R 152) = W0 := ⟨_, rfl⟩
  have hrz : ∀ ty, (Builtin.append_ #[149, 3] ty #[.slice (some ⟨g, 0, none⟩) i cap, .int .i64 ((cap : Int) + 1 - (i : Int))]).run Tryz.prog w = .ok (.slice (some ⟨w.heap.size, 0, none⟩) (cap + 1) G) W0 := fun ty => by
    have hik : i + (cap + 1 - i) = cap + 1 := by omega
    have h := Lib.run_append_grow_zeros w 149 3 ty 152 i0 _ .i64 .i64 Tryz.underlying149 Tryz.underlying3 hi0 hz0 (some ⟨g, 0, none⟩) i cap (cur.toList.take (i * 2)) hold (cap + 1 - i) (by omega) (by omega) (by omega) (by omega) (by rw [hzb]; omega) (by rw [hzb, hik]; exact growslice_fits (by omega) (by omega))
    rw [hik] at h
    rw [show (cap : Int) + 1 - (i : Int) = ((cap + 1 - i : Nat) : Int) by omega, h, hG, hR, hW0]
  have hb0 : Below w.heap.size w W0 := by rw [← hW0]; exact ((Below.refl _ w).drew).alloc (Nat.le_refl _) _
  have hg0 : Blk W0 w.heap.size 152 R := by rw [← hW0]; exact Blk.new w.drew _ _
  have hgl := hg.lt
  have hvl := hvb.lt
  have hga : Blk W0 g 152 cur := hg.below hb0 hgl
  have hva : Blk W0 vb te cx := hvb.below hb0 hvl
  have hdl : (cur.toList.drop (i * 2)).length = (cap - i) * 2 := by rw [List.length_drop]; omega
  obtain ⟨p1, p2, p3⟩ := ins_cells2 R.toList cx.toList (cur.toList.drop (i * 2)) (i * 2) 2 (by rw [hdl, Array.length_toList, hRl]; omega) (by simpa using hcx)
  generalize hr1 : R.toList.take (i * 2) ++ cx.toList ++ R.toList.drop (i * 2 + cx.toList.length) = r1 at *
  obtain ⟨W1, hW1⟩ : ∃ W1, W0.setRow w.heap.size r1.toArray = W1 := ⟨_, rfl⟩
  have hcp1 : ∀ ty dc, (Builtin.copy_ #[149, 149] ty #[.slice (some ⟨w.heap.size, i * 2, none⟩) (cap + 1 - i) dc, .slice (some ⟨vb, 0, none⟩) 1 1]).run Tryz.prog W0 = .ok (goInt (1 : Nat)) W1 := fun ty dc => by
    rw [← hW1, ← hr1]
    exact run_copy_rows (P := Tryz.prog) W0 149 149 ty 152 2 w.heap.size (i * 2) (cap + 1 - i) dc ⟨vb, 0, none⟩ 1 1 R 152 cx.toList 1 Tryz.underlying149 (by kernel_rfl) hg0 (by simp only [Nat.min_def]; split <;> omega) (by simpa using hcx) (World.news_of_block hva) (by rw [hRl, Array.length_toList, hcx]; omega) h1x
  have hg1 : Blk W1 w.heap.size 152 r1.toArray := by rw [← hW1]; exact hg0.setRow _
  have hb1 : Below w.heap.size w W1 := by rw [← hW1]; exact hb0.grown (grown_setRow _ _ _) hb0.size (fun k hk => by cases hk; exact Nat.le_refl _)
  have hga1 : Blk W1 g 152 cur := hg.below hb1 hgl
  obtain ⟨W2, hW2⟩ : ∃ W2, W1.drew.setRow w.heap.size (r1.take ((i + 1) * 2) ++ cur.toList.drop (i * 2) ++ r1.drop ((i + 1) * 2 + (cur.toList.drop (i * 2)).length)).toArray = W2 := ⟨_, rfl⟩
  have hcp2 : ∀ ty dc sc, (Builtin.copy_ #[149, 149] ty #[.slice (some ⟨w.heap.size, (i + 1) * 2, none⟩) (cap - i) dc, .slice (some ⟨g, i * 2, none⟩) (cap - i) sc]).run Tryz.prog W1.drew = .ok (goInt (cap - i : Nat)) W2 := fun ty dc sc => by
    rw [← hW2]
    have := run_copy_rows (P := Tryz.prog) W1.drew 149 149 ty 152 2 w.heap.size ((i + 1) * 2) (cap - i) dc ⟨g, i * 2, none⟩ (cap - i) sc r1.toArray 152 (cur.toList.drop (i * 2)) (cap - i) Tryz.underlying149 (by kernel_rfl) hg1.drew (by simp only [Nat.min_def]; split <;> omega) hdl (hga1.drew.at _) (by rw [List.size_toArray, p3, hRL]; omega) (fun v hv => h1c v (List.mem_of_mem_drop hv))
    simpa using this
  have hg2 : Blk W2 w.heap.size 152 (r1.take ((i + 1) * 2) ++ cur.toList.drop (i * 2) ++ r1.drop ((i + 1) * 2 + (cur.toList.drop (i * 2)).length)).toArray := by rw [← hW2]; exact hg1.drew.setRow _
  have hb2 : Below w.heap.size w W2 := by rw [← hW2]; exact (below_drewN hb1 1).grown (grown_setRow _ _ _) hb1.size (fun k hk => by cases hk; exact Nat.le_refl _)
  rw [show i * 2 + 2 = (i + 1) * 2 by omega] at p1 p2
  rw [hRt] at p1
  have hfin : InsPostSB base cap (cur.toList.take (i * 2) ++ cx.toList ++ cur.toList.drop (i * 2)) (some g) w (.returned (.slice (some ⟨w.heap.size, 0, none⟩) (cap + 1) G)) W2 :=
    ⟨w.heap.size, G, rfl, own_mk hbase hg2 hGn hG63 (by rw [List.size_toArray, p2, Array.length_toList, hRl]) (by rw [List.toList_toArray, ← p1]; congr 1; rw [hdl]; omega), ⟨hb2.os, hb2.tape, hb2.output, hb2.size, fun k hk _ => hb2.block k hk⟩, .inr (Nat.le_refl _)⟩
  have HF := Lib.hid hfin; clear hfin
  clear hb2 hg2 hb1 hg1 hga1 hb0 hg0 hga hva hW0 hW1 hW2 p1 p2 p3 hdl hr1 hRt hRl hR hG hold hi0 hz0 hzs hzb h1c h1x htk hc1 hg hvb hcs
  unfold maxLen at hG63
  have hz1 : ¬ ((i : Int) = (cap : Int)) := by omega
  have hw1 : IntKind.i64.wrap ((i : Int) + 1) = (i : Int) + 1 := by rw [IntKind.wrap_i64]; omega
  have hb1 : (0 : Int) ≤ (i : Int) + 1 := by omega
  have hin : i ≤ cap := by omega
  have htn : ((i : Int) + 1).toNat = i + 1 := by omega
  have hb2 : ¬ (cap = i + 1) ∨ cap = i + 1 := by omega
  have hb3 : (i : Int) ≤ (cap : Int) + 1 := by omega
  have hb4 : ¬ (cap = i) := by omega
  have hb5 : (cap : Int) < cap + 1 := by omega
  have hG1 : ¬ (G = i) := by omega
  have hG2 : ¬ (G = i + 1) := by omega
  clear hb2
  go_enter Tryz.func150, Tryz.ntmps150
  go_wp2_with (first
    | (at_builtin; refine Lib.wpList_append_run _ rfl _ _ _ _ rfl _ _ rfl rfl _ _ (hrz _) ?_)
    | (at_builtin; refine wpList_copy_rows _ rfl _ _ 149 149 rfl _ _ rfl rfl (hcp1 _ _) ?_))
  go_region_law (refine step_copy_rows rfl _ _ 149 149 rfl _ _ (by simp [Act.eval, Act.put]) (by simp [Act.eval, Act.put]) (hcp2 _ _ _) ?_)
  go_wp2_with fail
  go_ret
  exact HF.out
/-- one element more, at any place -/
theorem slInsertSB_any (w : World) (base : Nat) (v : Value) (n i vb : Nat) (xs : List Value) (te : TypeId) (cx : Array Value) (hown : w.ownsRow base 152 2 v n xs) (h1c : ∀ u ∈ xs, u.oneCell' = true) (hvb : Blk w vb te cx) (hne : v.ownBlock ≠ some vb) (hcx : cx.size = 2) (h1x : ∀ u ∈ cx.toList, u.oneCell' = true) (hi : i ≤ n) (hn : n + 1 ≤ 1000000) (hbase : base ≤ w.heap.size) :
    Calls Tryz.prog 150 #[v, .int .i64 i, .slice (some ⟨vb, 0, none⟩) 1 1] w (InsPostSB base n (xs.take (i * 2) ++ cx.toList ++ xs.drop (i * 2)) v.ownBlock w) := by
  by_cases hin : i = n
  · subst hin
    have hl := hown.1
    rw [List.take_of_length_le (by omega), List.drop_of_length_le (by omega), List.append_nil]
    exact slInsertSB_end w base v i vb xs te cx hown hvb hcx h1x hn hbase
  · obtain ⟨g, cap, cur, rfl, hbg, hg, h1, h2, h3, h4⟩ := own_form hown (by omega)
    subst h4
    have ht : ∀ k, k ≤ n → (cur.toList.take (n * 2)).take (k * 2) = cur.toList.take (k * 2) := fun k hk => by rw [List.take_take]; congr 1; omega
    rw [ht i (by omega)]
    have hneg : vb ≠ g := fun e => hne (by rw [e]; rfl)
    by_cases hroom : n + 1 ≤ cap
    · exact slInsertSB_room w base g cap n i vb cur te cx hbg hg h3 h1c hvb hneg hcx h1x (by omega) hroom h2
    · exact slInsertSB_grow w base g cap n i vb cur te cx hg h3 h1c hvb hcx h1x (by omega) h1 (by omega) hn hbase
end Go.Proofs.YtmpgmgjokliceaaGreatDoor
/- slices.Delete of one element out of a row of sorted.entry[string,bool] that the call owns. -/
set_option linter.unusedVariables false
set_option linter.unusedSimpArgs false
namespace Go.Proofs.YtmpgmgjokliceaaGreatDoor
open Go Go.RowKit
open Sw
/-- behind the call: a row with one element less -/
def DelPostSB (base n : Nat) (xs : List Value) (row : Option Nat) (w : World) (e : Ending) (w' : World) : Prop :=
  ∃ v, e = .returned v ∧ w'.ownsRow base 152 2 v n xs ∧ w.grownBy w' row ∧ v.ownBlock = row
end Go.Proofs.YtmpgmgjokliceaaGreatDoor
/- sorted.Map[string,bool]: New, find, Len, Clone, Drop, Put. -/
set_option linter.unusedVariables false
set_option linter.unusedSimpArgs false
namespace Go.Proofs.YtmpgmgjokliceaaGreatDoor
open Go Go.RowKit
open Sw
section
variable {w w' : World} {bm : Nat} {xs : List (ByteArray × Bool)}
theorem SMapSB.lt (h : SMapSB w bm xs) : bm < w.heap.size := by obtain ⟨v, hb, _⟩ := h.row; exact hb.lt
theorem SMapSB.ord (h : SMapSB w bm xs) : w.cell? ⟨bm, 0, none⟩ = some ordFSB := by obtain ⟨v, hb, _⟩ := h.row; exact hb.cell 0
theorem own_grown_typSB {w w' : World} {base : Nat} {e : TypeId} {size n : Nat} {v : Value} {l : List Value} (h : w.ownsRow base e size v n l) {g : Nat} {t : TypeId} {cs : Array Value} (hg : w.grownBy w' (some g)) (hB : Blk w g t cs) (hne : e ≠ t) : w'.ownsRow base e size v n l :=
  h.kept hg (by
    rcases h.2 with ⟨rfl, _⟩ | ⟨g', cap, cur, rfl, _, hg', _⟩
    · exact .inl rfl
    · right
      intro he
      have : g' = g := by simpa [Value.ownBlock] using he
      subst this
      exact Blk.other (hg' : Blk w g' e cur) hB hne rfl)
theorem SMapSB.grown (h : SMapSB w bm xs) {g : Nat} {t : TypeId} {cs : Array Value} (hg : w.grownBy w' (some g)) (hne : bm ≠ g) (hB : Blk w g t cs) (ht : 152 ≠ t) : SMapSB w' bm xs := by
  obtain ⟨v, hb, ho⟩ := h.row
  exact ⟨⟨v, hb.grown hg (by simpa using hne), own_grown_typSB ho hg hB ht⟩, h.up, h.ok⟩
theorem SMapSB.below (h : SMapSB w bm xs) (hb : Below w.heap.size w w') : SMapSB w' bm xs := by
  obtain ⟨v, hB, ho⟩ := h.row
  exact ⟨⟨v, hB.below hb hB.lt, own_kept ho hb⟩, h.up, h.ok⟩
theorem SMapSB.drewN (h : SMapSB w bm xs) (n : Nat) : SMapSB (w.drewN n) bm xs := h.below (below_drewN (Below.refl _ _) n)
theorem SMapSB.drew (h : SMapSB w bm xs) : SMapSB w.drew bm xs := h.below (Below.refl _ _).drew
theorem flat1SB (xs : List (ByteArray × Bool)) : ∀ u ∈ xs.flatMap eCSB, u.oneCell' = true := fun u hu => by
  rw [List.mem_flatMap] at hu
  obtain ⟨x, _, hx⟩ := hu
  exact eCSB_one x u hx
end
set_option maxRecDepth 100000 in
theorem srtNewSB_any (w : World) :
    Calls Tryz.prog 88 #[ordFSB] w fun e w' => ∃ bm, e = .returned (.pointer (some ⟨bm, 0, none⟩)) ∧ SMapSB w' bm [] ∧ w.heap.size ≤ bm ∧ Below w.heap.size w w' := by
  have hB := Blk.new w 154 #[ordFSB, .slice none 0 0]
  have hb1 := (Below.refl w.heap.size w).alloc (Nat.le_refl _) (.cells #[ordFSB, .slice none 0 0] 154)
  have HF := Lib.hid (⟨⟨_, hB, World.ownsRow_nil _ 0 152 2⟩, List.Pairwise.nil, fun e he => by cases he⟩ : SMapSB _ w.heap.size [])
  have HB := Lib.hid hb1; clear hb1 hB
  have hnf : ∀ W, (binOp .eql 140 ordFSB Value.nilFunc).run Tryz.prog W = .ok (.bool false) W := fun W => by kernel_rfl
  go_enter Tryz.func88, Tryz.ntmps88
  go_wp2_with fail
  go_ret
  exact ⟨_, rfl, HF.out, Nat.le_refl _, HB.out⟩
/-- the answer of find -/
def FindPostSB (k : ByteArray) (xs : List (ByteArray × Bool)) (w : World) (e : Ending) (w' : World) : Prop :=
  e = .returned (.tuple #[.int .i64 (lbN ordS k xs), .bool (inN ordS k xs)]) ∧ Below w.heap.size w w'
set_option maxRecDepth 100000 in
set_option maxHeartbeats 2000000 in
theorem srtFindSB_any (w : World) (bm : Nat) (xs : List (ByteArray × Bool)) (k : ByteArray) (h : SMapSB w bm xs) (hn : xs.length ≤ 1000000) (hk : okS k) :
    Calls Tryz.prog 149 #[.pointer (some ⟨bm, 0, none⟩), Value.string k] w (FindPostSB k xs w) := by
  obtain ⟨v, hb, ho⟩ := h.row
  have hord := h.ord
  have hB := Blk.new w 77 #[.pointer (some ⟨bm, 0, none⟩)]
  have hb1 := (Below.refl w.heap.size w).alloc (Nat.le_refl _) (.cells #[.pointer (some ⟨bm, 0, none⟩)] 77)
  have hg1 : (w.alloc (.cells #[.pointer (some ⟨bm, 0, none⟩)] 77)).cell? ⟨w.heap.size, 0, none⟩ = some (.pointer (some ⟨bm, 0, none⟩)) := hB.cell 0
  have hbl := hb.lt
  have hm0 := (hb1.cell (p := ⟨bm, 0, none⟩) hbl).trans hord
  have hm1 : (w.alloc (.cells #[.pointer (some ⟨bm, 0, none⟩)] 77)).cell? ⟨bm, 1, none⟩ = some v := (hb1.cell (p := ⟨bm, 1, none⟩) hbl).trans (hb.cell 1)
  have hsz := hB.lt
  obtain ⟨A, c, rfl, hc1, hc2, hsl⟩ := SlV.of_own (own_kept ho hb1) eCSB_len (by decide)
  have HS := Lib.hid (slSearchSB_any eCSB eCSB_len (fun e => ordS e.1 k) (w.alloc (.cells #[.pointer (some ⟨bm, 0, none⟩)] 77)) A xs.length c w.heap.size xs (Value.string k) rfl hn hsl
    (fun a b ha hb' hab hlt => by
      rcases Nat.lt_or_ge a b with h1 | h1
      · exact ordS_ord.trans _ _ _ (List.pairwise_iff_getElem.1 h.up a b ha hb' h1) hlt
      · obtain rfl : a = b := by omega
        exact hlt)
    (fun W x hx hbW => find1SB_any W w.heap.size bm x k (h.ok x hx) hk ((hbW.cell (p := ⟨w.heap.size, 0, none⟩) hsz).trans hg1) ((hbW.cell (p := ⟨bm, 0, none⟩) (Nat.lt_of_lt_of_le hbl hb1.size)).trans hm0)))
  have hv1 : w.cell? ⟨bm, 1, none⟩ = some (.slice A xs.length c) := hb.cell 1
  have HF := Lib.hid (fun e w' (hp : SrchPostSB (fun e : ByteArray × Bool => ordS e.1 k) xs (w.alloc (.cells #[.pointer (some ⟨bm, 0, none⟩)] 77)) e w') => (by
    obtain ⟨i, hi, h1, h2, rfl, hbw⟩ := hp
    have hl := lbN_eq ordS_ord k xs i hi h1 h2
    subst hl
    refine ⟨?_, hb1.trans (hbw.mono hb1.size)⟩
    rw [inN_eq ordS_ord] : FindPostSB k xs w e w'))
  clear hb1 hB hb ho hord h hsl hm0 hm1 hg1 hsz
  generalize xs.length = n at *
  go_enter Tryz.func149, Tryz.ntmps149
  go_wp2_with fail
  refine HS.out.mono ?_
  rintro e w2 hp
  obtain ⟨rfl, hb2⟩ := HF.out _ _ hp
  clear hp HF HS
  go_wp2_with fail
  go_ret2
  exact ⟨rfl, hb2⟩
end Go.Proofs.YtmpgmgjokliceaaGreatDoor
/- sorted.Map[string,bool]: Get, Put. -/
set_option linter.unusedVariables false
set_option linter.unusedSimpArgs false
namespace Go.Proofs.YtmpgmgjokliceaaGreatDoor
open Go Go.RowKit
open Sw
set_option maxRecDepth 100000 in
set_option maxHeartbeats 4000000 in
theorem srtPutSB_any (w : World) (bm : Nat) (xs : List (ByteArray × Bool)) (k : ByteArray) (v : Bool) (h : SMapSB w bm xs) (hn : xs.length + 1 ≤ 1000000) (hk : okS k) :
    Calls Tryz.prog 89 #[.pointer (some ⟨bm, 0, none⟩), Value.string k, (Value.bool) v] w fun e w' => e = .returned (.bool (!inN ordS k xs)) ∧ SMapSB w' bm (putN ordS k v xs) ∧ w.grownBy w' (some bm) := by
  have HS := Lib.hid (srtFindSB_any w bm xs k h (by omega) hk)
  have HM := Lib.hid h
  have hle := lbN_le (c := ordS) k xs
  cases hin : inN ordS k xs with
  | false =>
    have hd := put_miss k v xs hin
    have hln := put_len (c := ordS) k v xs
    rw [hin, if_neg (by simp)] at hln
    unfold FindPostSB at HS
    rw [hin] at HS
    obtain ⟨i, hi⟩ : ∃ i, lbN ordS k xs = i := ⟨_, rfl⟩
    rw [hi] at HS hle hd
    have HD := Lib.hid (And.intro hd hln); clear hd hln hin hi h
    go_enter Tryz.func89, Tryz.ntmps89
    go_wp2_with fail
    refine HS.out.mono ?_
    rintro e w1 ⟨rfl, hb1⟩
    obtain ⟨u, hb, ho⟩ := (HM.out.below hb1).row
    obtain ⟨A, c, rfl, _, _, _⟩ := SlV.of_own ho eCSB_len (by decide)
    have hv1 : w1.cell? ⟨bm, 1, none⟩ = some (.slice A xs.length c) := hb.cell 1
    have HC := Lib.hid (slCloneSB_any eCSB eCSB_len eCSB_one w1 _ xs (SlV.of_own ho eCSB_len (by decide)) (by omega))
    have HB := Lib.hid hb; clear hb ho
    have hb1S := hb1.size
    have HB1 := Lib.hid hb1; clear hb1
    go_wp2_with fail
    refine HC.out.mono ?_
    rintro e w2 ⟨v2, rfl, ho2, hb2⟩
    obtain ⟨A2, c2, hv2, _, _, _⟩ := SlV_of_any ho2
    have hba : Below w2.heap.size w2 (w2.alloc (.cells (eCSB (k, v)).toArray 152)) := (Below.refl _ _).alloc (Nat.le_refl _) _
    have hlt2 := hb2.size
    have hown1 := own_kept ho2 hba
    have hbk := Blk.new w2 152 (eCSB (k, v)).toArray
    have HI := Lib.hid (slInsertSB_any (w2.alloc (.cells (eCSB (k, v)).toArray 152)) w1.heap.size v2 xs.length i w2.heap.size (xs.flatMap eCSB) 152 (eCSB (k, v)).toArray hown1 (flat1SB xs) hbk (own_ne ho2 _ (Nat.le_refl _)) rfl (by simpa using eCSB_one (k, v)) hle hn (by simp; omega))
    have HFin := Lib.hid (fun (v3 : Value) (w3 : World) (ho3 : w3.ownsRow w1.heap.size 152 2 v3 (xs.length + 1) ((xs.flatMap eCSB).take (i * 2) ++ (eCSB (k, v)) ++ (xs.flatMap eCSB).drop (i * 2))) (hbx : Blk w3 bm 154 #[ordFSB, .slice A xs.length c]) => (by
      have hd := HD.out.1
      have hxs : (xs.flatMap eCSB).take (i * 2) ++ (eCSB (k, v)) ++ (xs.flatMap eCSB).drop (i * 2) = (putN ordS k v xs).flatMap eCSB := by rw [hd, List.flatMap_append, List.flatMap_cons, flat_take eCSB_len, flat_drop eCSB_len, List.append_assoc]
      rw [hxs, ← HD.out.2] at ho3
      exact ⟨⟨v3, hbx.put 1 v3, own_wide (own_grown_typSB ho3 (grown_put (grown_refl w3 (some bm)) 1 v3) hbx (by decide)) (Nat.zero_le _)⟩, put_up ordS_ord k v xs HM.out.up, fun e he => by
        rcases put_mem k v xs e he with rfl | he
        · exact hk
        · exact HM.out.ok e he⟩ : SMapSB (w3.setCell ⟨bm, 1, none⟩ v3) bm (putN ordS k v xs)))
    have HG := Lib.hid (fun (v3 : Value) (w3 : World) (hg3 : (w2.alloc (.cells (eCSB (k, v)).toArray 152)).grownBy w3 v2.ownBlock) => (by
      have h1 := grown_below (row := some bm) HB1.out
      have hb2a := hb2.trans (hba.mono hb2.size)
      have h2 := grown_trans h1 ⟨hb2a.os, hb2a.tape, hb2a.output, hb2a.size, fun k hk _ => hb2a.block k hk⟩
      have h3 := grown_sub h2 hg3 (fun k hk => by have := (ho2.lt k hk).1; omega)
      exact ⟨grown_put h3 1 v3, (HB.out.below hb2a HB.out.lt).grown hg3 (fun e => by have := (ho2.lt bm e.symm).1; have := HB.out.lt; omega)⟩ : w.grownBy (w3.setCell ⟨bm, 1, none⟩ v3) (some bm) ∧ Blk w3 bm 154 #[ordFSB, .slice A xs.length c]))
    clear HC ho2 hb2 hba hown1 hbk
    subst hv2
    unfold InsPostSB at HI
    generalize hrw : Value.ownBlock _ = rw2 at *
    clear hrw
    simp only [eCSB, List.toList_toArray] at HI HFin HG
    go_wp2_with fail
    refine HI.out.mono ?_
    rintro e w3 ⟨g3, cap3, rfl, ho3, hg3, hr3⟩
    obtain ⟨hgf, hbx⟩ := HG.out (.slice (some ⟨g3, 0, none⟩) (xs.length + 1) cap3) w3 hg3
    have hF := HFin.out _ w3 ho3 hbx
    have hc1 : w3.cell? ⟨bm, 1, none⟩ = some (.slice A xs.length c) := hbx.cell 1
    have hf1 := hbx.frozen 1
    have HZ := Lib.hid (And.intro hF hgf); clear hF hgf hbx ho3 hg3 hr3
    go_wp2_with fail
    go_ret
    exact ⟨rfl, HZ.out.1, HZ.out.2⟩
  | true =>
    have hlt := inN_lt ordS_ord hin
    have hd := put_hit k v xs hin
    have hkk : ordS (xs[lbN ordS k xs]).1 k = 0 := by
      have := inN_at ordS_ord (k := k) hlt
      rw [hin] at this
      exact of_decide_eq_true this.symm
    have hkx : ∀ (j : Nat) (hj : j < xs.length), j = lbN ordS k xs → (xs[j]).1 = k := by
      intro j hj e
      subst e
      exact ordS_ord.zero _ _ hkk
    unfold FindPostSB at HS
    rw [hin] at HS
    obtain ⟨i, hi⟩ : ∃ i, lbN ordS k xs = i := ⟨_, rfl⟩
    rw [hi] at HS hlt hd
    have hkx2 := hkx i hlt hi.symm
    have HD := Lib.hid (And.intro hd hkx2); clear hkx2 hd hin hi h hle hkk hkx
    go_enter Tryz.func89, Tryz.ntmps89
    go_wp2_with fail
    refine HS.out.mono ?_
    rintro e w1 ⟨rfl, hb1⟩
    obtain ⟨u, hb, ho⟩ := (HM.out.below hb1).row
    obtain ⟨A, c, rfl, _, _, _⟩ := SlV.of_own ho eCSB_len (by decide)
    have hv1 : w1.cell? ⟨bm, 1, none⟩ = some (.slice A xs.length c) := hb.cell 1
    have HC := Lib.hid (slCloneSB_any eCSB eCSB_len eCSB_one w1 _ xs (SlV.of_own ho eCSB_len (by decide)) (by omega))
    have HB := Lib.hid hb; clear hb ho
    have hb1S := hb1.size
    have HB1 := Lib.hid hb1; clear hb1
    go_wp2_with fail
    refine HC.out.mono ?_
    rintro e w2 ⟨v2, rfl, ho2, hb2⟩
    obtain ⟨g, cap, cur, rfl, hbg, hg, hnc, hcm, hcs, htk⟩ := own_form ho2 (by omega)
    have hgl := hg.lt
    have hst := own_setCells [.bool v] (i * 2 + 1) w2 _ ho2 (by simp; omega)
    have hgr := grown_setCells (a := w2) (g := g) [.bool v] (i * 2 + 1) w2 (grown_refl _ _)
    have hfl := flat_put eCSB_len xs i hlt (k, v) 1 [.bool v] (by simp) (by simp [eCSB, HD.out.2])
    rw [hfl, ← HD.out.1] at hst
    have hl : (putN ordS k v xs).length = xs.length := by rw [HD.out.1, List.length_set]
    rw [← hl] at hst
    have hbx : Blk (w2.setCells g (i * 2 + 1) [.bool v]) bm 154 #[ordFSB, .slice A xs.length c] := (HB.out.below hb2 HB.out.lt).grown hgr (fun e => by have := HB.out.lt; cases e; omega)
    have hF : SMapSB ((w2.setCells g (i * 2 + 1) [.bool v]).setCell ⟨bm, 1, none⟩ (.slice (some ⟨g, 0, none⟩) (putN ordS k v xs).length cap)) bm (putN ordS k v xs) :=
      ⟨⟨_, hbx.put 1 _, own_wide (own_grown_typSB hst (grown_put (grown_refl _ (some bm)) 1 _) hbx (by decide)) (Nat.zero_le _)⟩, put_up ordS_ord k v xs HM.out.up, fun e he => by
        rcases put_mem k v xs e he with rfl | he
        · exact hk
        · exact HM.out.ok e he⟩
    have hGf : w.grownBy ((w2.setCells g (i * 2 + 1) [.bool v]).setCell ⟨bm, 1, none⟩ (.slice (some ⟨g, 0, none⟩) (putN ordS k v xs).length cap)) (some bm) := by
      have h1 := grown_below (row := some bm) HB1.out
      have h2 := grown_trans h1 ⟨hb2.os, hb2.tape, hb2.output, hb2.size, fun k hk _ => hb2.block k hk⟩
      exact grown_put (grown_sub h2 hgr (fun k hk => by cases hk; omega)) 1 _
    rw [hl] at hF hGf
    have hx0 : ∀ j, j < cap * 2 → (w2.cell? ⟨g, j, none⟩).isSome = true := fun j hj => by
      rw [hg.cell, Array.getElem?_eq_getElem (by omega)]; rfl
    have hil : i * 2 + 1 < cap * 2 := by omega
    obtain ⟨old, hold⟩ := Option.isSome_iff_exists.1 (hx0 (i * 2 + 1) hil)
    have hfz := hg.frozen (i * 2 + 1)
    have hbc1 : w2.cell? ⟨bm, 1, none⟩ = some (.slice A xs.length c) := (HB.out.below hb2 HB.out.lt).cell 1
    have hbf1 := (HB.out.below hb2 HB.out.lt).frozen 1
    have hne1 : bm ≠ g := fun e => by have := HB.out.lt; omega
    have hc3 : (w2.setCell ⟨g, i * 2 + 1, none⟩ (Value.bool v)).cell? ⟨bm, 1, none⟩ = some (.slice A xs.length c) := (World.cell?_setCell_other w2 _ _ _ (by intro e; exact hne1 (congrArg Addr.block e).symm)).trans hbc1
    have hf3 : (w2.setCell ⟨g, i * 2 + 1, none⟩ (Value.bool v)).frozen? ⟨bm, 1, none⟩ = false := by
      rw [World.frozen?_setCell]; exact hbf1
    have HZ := Lib.hid (And.intro hF hGf); clear hF hGf hbx hst hgr hfl hl hx0 hg htk ho2 hb2 hnc hcs hcm
    have hi2 : (i : Int) < xs.length := by omega
    go_wp2_with fail
    go_ret
    exact ⟨rfl, HZ.out.1, HZ.out.2⟩
end Go.Proofs.YtmpgmgjokliceaaGreatDoor
