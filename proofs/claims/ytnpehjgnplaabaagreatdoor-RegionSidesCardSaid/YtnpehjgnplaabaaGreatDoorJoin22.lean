/- Several texts, joined for the limit of sixty files; each one opens with its own comment. -/
import Derived.Test.YtnpehjgnplaabaaGreatDoorJoin21
import Derived.Deep.RegionLaw
import Derived.Test.YtnpehjgnplaabaaGreatDoorJoin11
import Derived.Test.YtnpehjgnplaabaaGreatDoorJoin12
/- Several texts, joined for the limit of sixty files; each one opens with its own comment. -/
/- slices.Insert of one element into a row of sorted.entry[string,bool] that the call owns. -/
set_option linter.unusedVariables false
set_option linter.unusedSimpArgs false
namespace Go.Proofs.YtnpehjgnplaabaaGreatDoor
open Go Go.RowKit
open Sw
/-- behind the call: a row with one more element -/
def InsPostSB (base n : Nat) (xs : List Value) (row : Option Nat) (w : World) (e : Ending) (w' : World) : Prop :=
  ∃ g cap, e = .returned (.slice (some ⟨g, 0, none⟩) (n + 1) cap) ∧ w'.ownsRow base 225 2 (.slice (some ⟨g, 0, none⟩) (n + 1) cap) (n + 1) xs ∧ w.grownBy w' row ∧ (row = some g ∨ w.heap.size ≤ g)
set_option maxRecDepth 100000 in
set_option maxHeartbeats 2000000 in
/-- at the end -/
theorem slInsertSB_end (w : World) (base : Nat) (v : Value) (n vb : Nat) (xs : List Value) (te : TypeId) (cx : Array Value) (hown : w.ownsRow base 225 2 v n xs) (hvb : Blk w vb te cx) (hcx : cx.size = 2) (h1x : ∀ u ∈ cx.toList, u.oneCell' = true) (hn : n + 1 ≤ 1000000) (hbase : base ≤ w.heap.size) :
    Calls Tryz.prog 171 #[v, .int .i64 n, .slice (some ⟨vb, 0, none⟩) 1 1] w (InsPostSB base n (xs ++ cx.toList) v.ownBlock w) := by
  have hfin : ∀ g cap w', w'.ownsRow base 225 2 (.slice (some ⟨g, 0, none⟩) (n + 1) cap) (n + 1) (xs ++ cx.toList) → w.grownBy w' v.ownBlock → (v.ownBlock = some g ∨ g = w.heap.size) →
      InsPostSB base n (xs ++ cx.toList) v.ownBlock w (.returned (.slice (some ⟨g, 0, none⟩) (n + 1) cap)) w' := fun g cap w' h1 h2 h3 => ⟨g, cap, rfl, h1, h2, by rcases h3 with h | h; exact .inl h; exact .inr (by omega)⟩
  have HF := Lib.hid hfin; clear hfin
  have HO := Lib.hid hown
  have HB := Lib.hid hvb; clear hvb
  rcases hown.2 with ⟨rfl, rfl⟩ | ⟨g, cap, cur, rfl, hbg, hg, hnc, hcm, hcs, htk⟩
  · clear hown
    go_enter Tryz.func171, Tryz.ntmps171
    go_wp2_with (at_builtin; refine wpList_app rfl _ _ 219 rfl base 225 (.agg #[.string ⟨#[]⟩, .bool false]) 2 24 Tryz.underlying219 infoESB rfl (by decide) _ 0 xs rfl HO.out vb 1 cx te rfl HB.out hcx h1x (by omega) (by decide) hbase _ rfl ?_; intro g cap w1 hown1 hgrow1 hat hlt)
    have HP := Lib.hid (HF.out g cap w1 hown1 hgrow1 hat); clear hown1 hgrow1 hat
    go_wp2_with fail
    go_ret
    exact HP.out
  · clear hown htk hg hcs
    unfold maxLen at hcm
    go_enter Tryz.func171, Tryz.ntmps171
    go_wp2_with (at_builtin; refine wpList_app rfl _ _ 219 rfl base 225 (.agg #[.string ⟨#[]⟩, .bool false]) 2 24 Tryz.underlying219 infoESB rfl (by decide) _ n xs rfl HO.out vb 1 cx te rfl HB.out hcx h1x (by omega) (by decide) hbase _ rfl ?_; intro g cap w1 hown1 hgrow1 hat hlt)
    all_goals
      have HP := Lib.hid (HF.out _ _ w1 hown1 hgrow1 hat); clear hown1 hgrow1 hat
      go_wp2_with fail
      go_ret
      exact HP.out
set_option maxRecDepth 100000 in
set_option maxHeartbeats 4000000 in
/-- in the midst, where there is room -/
theorem slInsertSB_room (w : World) (base g cap n i vb : Nat) (cur : Array Value) (te : TypeId) (cx : Array Value) (hbg : base ≤ g) (hg : Blk w g 225 cur) (hcs : cur.size = cap * 2) (h1c : ∀ u ∈ cur.toList.take (n * 2), u.oneCell' = true) (hvb : Blk w vb te cx) (hne : vb ≠ g) (hcx : cx.size = 2) (h1x : ∀ u ∈ cx.toList, u.oneCell' = true) (hi : i < n) (hroom : n + 1 ≤ cap) (hcm : cap ≤ maxLen) :
    Calls Tryz.prog 171 #[.slice (some ⟨g, 0, none⟩) n cap, .int .i64 i, .slice (some ⟨vb, 0, none⟩) 1 1] w
      (InsPostSB base n (cur.toList.take (i * 2) ++ cx.toList ++ (cur.toList.take (n * 2)).drop (i * 2)) (some g) w) := by
  have hov : ∀ lb cb W, Blk W g 225 cur → Blk W vb te cx → (callFunc 202 #[.slice (some ⟨vb, 0, none⟩) 1 1, .slice (some ⟨g, (i + 1) * 2, none⟩) lb cb]).run Tryz.prog W = .ok (.value (.bool false)) W := fun lb cb W h1 h2 => by
    rw [run_callFunc_extern Tryz.func202 (by kernel_rfl) (by kernel_rfl) (by kernel_rfl) (e := Extern.SlicesOverlaps.overlaps #[219, 219] #[4]) (by kernel_rfl),
      Lib.run_overlaps_apart W 219 4 225 Tryz.underlying219 2 Tryz.sizeOf225 ⟨vb, 0, none⟩ ⟨g, (i + 1) * 2, none⟩ 1 1 lb cb hne te 225 cx.size cur.size h2.shape h1.shape (by rw [hcs]; omega) (h2.frozen 0) (h2.frozen cx.size)]
    rfl
  unfold maxLen at hcm
  have hc1 : cur.toList.length = cap * 2 := by rw [Array.length_toList]; exact hcs
  obtain ⟨q1, q2, q3, q4⟩ := ins_cells cur.toList cx.toList (i * 2) (n * 2) 2 (by omega) (by omega) (by simpa using hcx)
  obtain ⟨cs, hcsd⟩ : ∃ cs, (cur.toList.take (n * 2)).drop (i * 2) = cs := ⟨_, rfl⟩
  simp only [hcsd] at q1 q2 q3 q4
  rw [hcsd]
  obtain ⟨W1, hW1⟩ : ∃ W1, w.drew.setRow g (cur.toList.take ((i + 1) * 2) ++ cs ++ cur.toList.drop ((i + 1) * 2 + cs.length)).toArray = W1 := ⟨_, rfl⟩
  have hcp1 : ∀ ty dc sc, (Builtin.copy_ #[219, 219] ty #[.slice (some ⟨g, (i + 1) * 2, none⟩) (n - i) dc, .slice (some ⟨g, i * 2, none⟩) (n + 1 - i) sc]).run Tryz.prog w.drew = .ok (goInt (n - i : Nat)) W1 := fun ty dc sc => by
    rw [← hW1]
    refine run_copy_rows w.drew _ _ ty 225 2 g _ _ dc _ _ sc cur 225 cs (n - i) Tryz.underlying219 (by kernel_rfl) hg.drew (by simp only [Nat.min_def]; split <;> omega) (by rw [q4]; omega) (fun j v hj => ?_) (by rw [q4]; omega) (fun v hv => h1c v ?_)
    · refine hg.drew.at _ j v ?_
      rw [← hcsd] at hj
      rw [List.getElem?_drop, List.getElem?_take] at hj
      split at hj
      · rw [List.getElem?_drop]; exact hj
      · cases hj
    · rw [← hcsd] at hv; exact List.mem_of_mem_drop hv
  have hg1 : Blk W1 g 225 (cur.toList.take ((i + 1) * 2) ++ cs ++ cur.toList.drop ((i + 1) * 2 + cs.length)).toArray := by rw [← hW1]; exact hg.drew.setRow _
  have hgr1 : w.grownBy W1 (some g) := by rw [← hW1]; exact grown_of_drew (grown_setRow _ _ _)
  have hvb1 : Blk W1 vb te cx := hvb.grown hgr1 (by simpa using hne)
  rw [show i * 2 + 2 = (i + 1) * 2 by omega] at q1 q2 q3
  generalize hr1 : cur.toList.take ((i + 1) * 2) ++ cs ++ cur.toList.drop ((i + 1) * 2 + cs.length) = r1 at *
  obtain ⟨W2, hW2⟩ : ∃ W2, W1.setRow g (r1.take (i * 2) ++ cx.toList ++ r1.drop (i * 2 + cx.toList.length)).toArray = W2 := ⟨_, rfl⟩
  have hcp2 : ∀ ty dc, (Builtin.copy_ #[219, 219] ty #[.slice (some ⟨g, i * 2, none⟩) (n + 1 - i) dc, .slice (some ⟨vb, 0, none⟩) 1 1]).run Tryz.prog W1 = .ok (goInt (1 : Nat)) W2 := fun ty dc => by
    rw [← hW2]
    have := run_copy_rows (P := Tryz.prog) W1 219 219 ty 225 2 g (i * 2) (n + 1 - i) dc ⟨vb, 0, none⟩ 1 1 r1.toArray 225 cx.toList 1 Tryz.underlying219 (by kernel_rfl) hg1 (by simp only [Nat.min_def]; split <;> omega) (by simpa using hcx) (World.news_of_block hvb1) (by rw [List.size_toArray, q3, Array.length_toList]; omega) h1x
    simpa using this
  have hg2 : Blk W2 g 225 (r1.take (i * 2) ++ cx.toList ++ r1.drop (i * 2 + cx.toList.length)).toArray := by rw [← hW2]; exact hg1.setRow _
  have hgr2 : w.grownBy W2 (some g) := by rw [← hW2]; exact grown_trans hgr1 (grown_setRow _ _ _)
  have hfin : InsPostSB base n (cur.toList.take (i * 2) ++ cx.toList ++ cs) (some g) w (.returned (.slice (some ⟨g, 0, none⟩) (n + 1) cap)) W2 :=
    ⟨g, cap, rfl, own_mk hbg hg2 hroom (by unfold maxLen; omega) (by rw [List.size_toArray, q2, hc1]) (by rw [List.toList_toArray, ← q1]; congr 1; omega), hgr2, .inl rfl⟩
  have HF := Lib.hid hfin; clear hfin
  clear hgr1 hgr2 hg2 hg1 hvb1 hW1 hW2 q1 q2 q3 q4 hcsd hc1 hr1 h1c h1x
  have HV := Lib.hid (fun lb cb => hov lb cb w hg hvb); clear hov
  have hz1 : ¬ ((i : Int) = (n : Int)) := by omega
  have hw1 : IntKind.i64.wrap ((i : Int) + 1) = (i : Int) + 1 := by rw [IntKind.wrap_i64]; omega
  have hb1 : (0 : Int) ≤ (i : Int) + 1 := by omega
  have hin : i ≤ n := by omega
  have htn : ((i : Int) + 1).toNat = i + 1 := by omega
  have hb2 : ¬ (cap = i + 1) := by omega
  have hb3 : (i : Int) ≤ (n : Int) + 1 := by omega
  have hb4 : ¬ (cap = i) := by omega
  have hb5 : ¬ (cap : Int) < n + 1 := by omega
  clear hcs
  go_enter Tryz.func171, Tryz.ntmps171
  go_wp2_with (simp only [HV.out])
  go_region_law (refine step_copy_rows rfl _ _ 219 219 rfl _ _ (by simp [Act.eval, Act.put]) (by simp [Act.eval, Act.put]) (hcp1 _ _ _) ?_)
  go_wp2_with (at_builtin; refine wpList_copy_rows _ rfl _ _ 219 219 rfl _ _ rfl rfl (hcp2 _ _) ?_)
  go_ret
  exact HF.out
set_option maxRecDepth 100000 in
set_option maxHeartbeats 4000000 in
/-- in the midst, where there is no room -/
theorem slInsertSB_grow (w : World) (base g cap n i vb : Nat) (cur : Array Value) (te : TypeId) (cx : Array Value) (hg : Blk w g 225 cur) (hcs : cur.size = cap * 2) (h1c : ∀ u ∈ cur.toList.take (n * 2), u.oneCell' = true) (hvb : Blk w vb te cx) (hcx : cx.size = 2) (h1x : ∀ u ∈ cx.toList, u.oneCell' = true) (hi : i < n) (hnc : n ≤ cap) (hroom : cap < n + 1) (hn : n + 1 ≤ 1000000) (hbase : base ≤ w.heap.size) :
    Calls Tryz.prog 171 #[.slice (some ⟨g, 0, none⟩) n cap, .int .i64 i, .slice (some ⟨vb, 0, none⟩) 1 1] w
      (InsPostSB base n (cur.toList.take (i * 2) ++ cx.toList ++ (cur.toList.take (n * 2)).drop (i * 2)) (some g) w) := by
  obtain rfl : cap = n := by omega
  obtain ⟨i0, hi0, hz0, hzs, hzb⟩ := info_parts infoESB
  have hc1 : cur.toList.length = cap * 2 := by rw [Array.length_toList]; exact hcs
  have htk : cur.toList.take (cap * 2) = cur.toList := List.take_of_length_le (by omega)
  rw [htk] at h1c ⊢
  have hold : (Builtin.firstCells i0.size i (.slice (some ⟨g, 0, none⟩) i cap)).run Tryz.prog w.drew = .ok (cur.toList.take (i * 2)).toArray w.drew := by
    rw [hzs]
    exact run_firstCells_some w.drew 2 i ⟨g, 0, none⟩ i cap (cur.toList.take (i * 2)) (by rw [List.length_take]; omega) (fun j v hj => by
      refine hg.drew.at 0 j v ?_
      rw [List.getElem?_take] at hj
      split at hj
      · rw [List.drop_zero]; exact hj
      · cases hj)
  obtain ⟨G, hG⟩ : ∃ G, grownCap w (cap + 1) cap 225 = G := ⟨_, rfl⟩
  have hGn : cap + 1 ≤ G := by rw [← hG]; exact grownCap_ge w _ _ _
  have hG63 : G ≤ maxLen := by rw [← hG]; exact grownCap_le_maxLen w (cap + 1) cap 225 (by unfold maxLen; omega)
  obtain ⟨R, hR⟩ : ∃ R : Array Value, (cur.toList.take (i * 2)).toArray ++ Builtin.zeroCells (Value.cells (.agg #[.string ⟨#[]⟩, .bool false])) (cap + 1 - i) ++ Builtin.zeroCells (Value.cells (.agg #[.string ⟨#[]⟩, .bool false])) (G - (cap + 1)) = R := ⟨_, rfl⟩
  have hRl : R.size = G * 2 := by
    rw [← hR]
    simp only [Array.size_append, List.size_toArray, List.length_take, size_zeroCells, hc1]
    simp [Value.cells]
    omega
  have hRL : R.toList.length = G * 2 := by rw [Array.length_toList, hRl]
  have hRt : R.toList.take (i * 2) = cur.toList.take (i * 2) := by
    rw [← hR, Array.toList_append, Array.toList_append, List.toList_toArray, List.append_assoc, List.take_append_of_le_length (by rw [List.length_take]; omega), List.take_take, Nat.min_self]
  obtain ⟨W0, hW0⟩ : ∃ W0, w.drew.alloc (.cells R 225) = W0 := ⟨_, rfl⟩
  have hrz : ∀ ty, (Builtin.append_ #[219, 3] ty #[.slice (some ⟨g, 0, none⟩) i cap, .int .i64 ((cap : Int) + 1 - (i : Int))]).run Tryz.prog w = .ok (.slice (some ⟨w.heap.size, 0, none⟩) (cap + 1) G) W0 := fun ty => by
    have hik : i + (cap + 1 - i) = cap + 1 := by omega
    have h := Lib.run_append_grow_zeros w 219 3 ty 225 i0 _ .i64 .i64 Tryz.underlying219 Tryz.underlying3 hi0 hz0 (some ⟨g, 0, none⟩) i cap (cur.toList.take (i * 2)) hold (cap + 1 - i) (by omega) (by omega) (by omega) (by omega) (by rw [hzb]; omega) (by rw [hzb, hik]; exact growslice_fits (by omega) (by omega))
    rw [hik] at h
    rw [show (cap : Int) + 1 - (i : Int) = ((cap + 1 - i : Nat) : Int) by omega, h, hG, hR, hW0]
  have hb0 : Below w.heap.size w W0 := by rw [← hW0]; exact ((Below.refl _ w).drew).alloc (Nat.le_refl _) _
  have hg0 : Blk W0 w.heap.size 225 R := by rw [← hW0]; exact Blk.new w.drew _ _
  have hgl := hg.lt
  have hvl := hvb.lt
  have hga : Blk W0 g 225 cur := hg.below hb0 hgl
  have hva : Blk W0 vb te cx := hvb.below hb0 hvl
  have hdl : (cur.toList.drop (i * 2)).length = (cap - i) * 2 := by rw [List.length_drop]; omega
  obtain ⟨p1, p2, p3⟩ := ins_cells2 R.toList cx.toList (cur.toList.drop (i * 2)) (i * 2) 2 (by rw [hdl, Array.length_toList, hRl]; omega) (by simpa using hcx)
  generalize hr1 : R.toList.take (i * 2) ++ cx.toList ++ R.toList.drop (i * 2 + cx.toList.length) = r1 at *
  obtain ⟨W1, hW1⟩ : ∃ W1, W0.setRow w.heap.size r1.toArray = W1 := ⟨_, rfl⟩
  have hcp1 : ∀ ty dc, (Builtin.copy_ #[219, 219] ty #[.slice (some ⟨w.heap.size, i * 2, none⟩) (cap + 1 - i) dc, .slice (some ⟨vb, 0, none⟩) 1 1]).run Tryz.prog W0 = .ok (goInt (1 : Nat)) W1 := fun ty dc => by
    rw [← hW1, ← hr1]
    exact run_copy_rows (P := Tryz.prog) W0 219 219 ty 225 2 w.heap.size (i * 2) (cap + 1 - i) dc ⟨vb, 0, none⟩ 1 1 R 225 cx.toList 1 Tryz.underlying219 (by kernel_rfl) hg0 (by simp only [Nat.min_def]; split <;> omega) (by simpa using hcx) (World.news_of_block hva) (by rw [hRl, Array.length_toList, hcx]; omega) h1x
  have hg1 : Blk W1 w.heap.size 225 r1.toArray := by rw [← hW1]; exact hg0.setRow _
  have hb1 : Below w.heap.size w W1 := by rw [← hW1]; exact hb0.grown (grown_setRow _ _ _) hb0.size (fun k hk => by cases hk; exact Nat.le_refl _)
  have hga1 : Blk W1 g 225 cur := hg.below hb1 hgl
  obtain ⟨W2, hW2⟩ : ∃ W2, W1.drew.setRow w.heap.size (r1.take ((i + 1) * 2) ++ cur.toList.drop (i * 2) ++ r1.drop ((i + 1) * 2 + (cur.toList.drop (i * 2)).length)).toArray = W2 := ⟨_, rfl⟩
  have hcp2 : ∀ ty dc sc, (Builtin.copy_ #[219, 219] ty #[.slice (some ⟨w.heap.size, (i + 1) * 2, none⟩) (cap - i) dc, .slice (some ⟨g, i * 2, none⟩) (cap - i) sc]).run Tryz.prog W1.drew = .ok (goInt (cap - i : Nat)) W2 := fun ty dc sc => by
    rw [← hW2]
    have := run_copy_rows (P := Tryz.prog) W1.drew 219 219 ty 225 2 w.heap.size ((i + 1) * 2) (cap - i) dc ⟨g, i * 2, none⟩ (cap - i) sc r1.toArray 225 (cur.toList.drop (i * 2)) (cap - i) Tryz.underlying219 (by kernel_rfl) hg1.drew (by simp only [Nat.min_def]; split <;> omega) hdl (hga1.drew.at _) (by rw [List.size_toArray, p3, hRL]; omega) (fun v hv => h1c v (List.mem_of_mem_drop hv))
    simpa using this
  have hg2 : Blk W2 w.heap.size 225 (r1.take ((i + 1) * 2) ++ cur.toList.drop (i * 2) ++ r1.drop ((i + 1) * 2 + (cur.toList.drop (i * 2)).length)).toArray := by rw [← hW2]; exact hg1.drew.setRow _
  have hb2 : Below w.heap.size w W2 := by rw [← hW2]; exact (below_drewN hb1 1).grown (grown_setRow _ _ _) hb1.size (fun k hk => by cases hk; exact Nat.le_refl _)
  rw [show i * 2 + 2 = (i + 1) * 2 by omega] at p1 p2
  rw [hRt] at p1
  have hfin : InsPostSB base cap (cur.toList.take (i * 2) ++ cx.toList ++ cur.toList.drop (i * 2)) (some g) w (.returned (.slice (some ⟨w.heap.size, 0, none⟩) (cap + 1) G)) W2 :=
    ⟨w.heap.size, G, rfl, own_mk hbase hg2 hGn hG63 (by rw [List.size_toArray, p2, Array.length_toList, hRl]) (by rw [List.toList_toArray, ← p1]; congr 1; rw [hdl]; omega), ⟨hb2.os, hb2.tape, hb2.output, hb2.size, fun k hk _ => hb2.block k hk⟩, .inr (Nat.le_refl _)⟩
  have HF := Lib.hid hfin; clear hfin
  clear hb2 hg2 hb1 hg1 hga1 hb0 hg0 hga hva hW0 hW1 hW2 p1 p2 p3 hdl hr1 hRt hRl hR hG hold hi0 hz0 hzs hzb h1c h1x htk hc1 hg hvb hcs
  unfold maxLen at hG63
  have hz1 : ¬ ((i : Int) = (cap : Int)) := by omega
  have hw1 : IntKind.i64.wrap ((i : Int) + 1) = (i : Int) + 1 := by rw [IntKind.wrap_i64]; omega
  have hb1 : (0 : Int) ≤ (i : Int) + 1 := by omega
  have hin : i ≤ cap := by omega
  have htn : ((i : Int) + 1).toNat = i + 1 := by omega
  have hb2 : ¬ (cap = i + 1) ∨ cap = i + 1 := by omega
  have hb3 : (i : Int) ≤ (cap : Int) + 1 := by omega
  have hb4 : ¬ (cap = i) := by omega
  have hb5 : (cap : Int) < cap + 1 := by omega
  have hG1 : ¬ (G = i) := by omega
  have hG2 : ¬ (G = i + 1) := by omega
  clear hb2
  go_enter Tryz.func171, Tryz.ntmps171
  go_wp2_with (first
    | (at_builtin; refine Lib.wpList_append_run _ rfl _ _ _ _ rfl _ _ rfl rfl _ _ (hrz _) ?_)
    | (at_builtin; refine wpList_copy_rows _ rfl _ _ 219 219 rfl _ _ rfl rfl (hcp1 _ _) ?_))
  go_region_law (refine step_copy_rows rfl _ _ 219 219 rfl _ _ (by simp [Act.eval, Act.put]) (by simp [Act.eval, Act.put]) (hcp2 _ _ _) ?_)
  go_wp2_with fail
  go_ret
  exact HF.out
/-- one element more, at any place -/
theorem slInsertSB_any (w : World) (base : Nat) (v : Value) (n i vb : Nat) (xs : List Value) (te : TypeId) (cx : Array Value) (hown : w.ownsRow base 225 2 v n xs) (h1c : ∀ u ∈ xs, u.oneCell' = true) (hvb : Blk w vb te cx) (hne : v.ownBlock ≠ some vb) (hcx : cx.size = 2) (h1x : ∀ u ∈ cx.toList, u.oneCell' = true) (hi : i ≤ n) (hn : n + 1 ≤ 1000000) (hbase : base ≤ w.heap.size) :
    Calls Tryz.prog 171 #[v, .int .i64 i, .slice (some ⟨vb, 0, none⟩) 1 1] w (InsPostSB base n (xs.take (i * 2) ++ cx.toList ++ xs.drop (i * 2)) v.ownBlock w) := by
  by_cases hin : i = n
  · subst hin
    have hl := hown.1
    rw [List.take_of_length_le (by omega), List.drop_of_length_le (by omega), List.append_nil]
    exact slInsertSB_end w base v i vb xs te cx hown hvb hcx h1x hn hbase
  · obtain ⟨g, cap, cur, rfl, hbg, hg, h1, h2, h3, h4⟩ := own_form hown (by omega)
    subst h4
    have ht : ∀ k, k ≤ n → (cur.toList.take (n * 2)).take (k * 2) = cur.toList.take (k * 2) := fun k hk => by rw [List.take_take]; congr 1; omega
    rw [ht i (by omega)]
    have hneg : vb ≠ g := fun e => hne (by rw [e]; rfl)
    by_cases hroom : n + 1 ≤ cap
    · exact slInsertSB_room w base g cap n i vb cur te cx hbg hg h3 h1c hvb hneg hcx h1x (by omega) hroom h2
    · exact slInsertSB_grow w base g cap n i vb cur te cx hg h3 h1c hvb hcx h1x (by omega) h1 (by omega) hn hbase
end Go.Proofs.YtnpehjgnplaabaaGreatDoor
/- slices.Delete of one element out of a row of sorted.entry[string,bool] that the call owns. -/
set_option linter.unusedVariables false
set_option linter.unusedSimpArgs false
namespace Go.Proofs.YtnpehjgnplaabaaGreatDoor
open Go Go.RowKit
open Sw
end Go.Proofs.YtnpehjgnplaabaaGreatDoor
/- sorted.Map[string,bool]: New, find, Len, Clone, Drop, Put. -/
set_option linter.unusedVariables false
set_option linter.unusedSimpArgs false
namespace Go.Proofs.YtnpehjgnplaabaaGreatDoor
open Go Go.RowKit
open Sw
section
variable {w w' : World} {bm : Nat} {xs : List (ByteArray × Bool)}
theorem SMapSB.lt (h : SMapSB w bm xs) : bm < w.heap.size := by obtain ⟨v, hb, _⟩ := h.row; exact hb.lt
theorem SMapSB.ord (h : SMapSB w bm xs) : w.cell? ⟨bm, 0, none⟩ = some ordFSB := by obtain ⟨v, hb, _⟩ := h.row; exact hb.cell 0
theorem own_grown_typSB {w w' : World} {base : Nat} {e : TypeId} {size n : Nat} {v : Value} {l : List Value} (h : w.ownsRow base e size v n l) {g : Nat} {t : TypeId} {cs : Array Value} (hg : w.grownBy w' (some g)) (hB : Blk w g t cs) (hne : e ≠ t) : w'.ownsRow base e size v n l :=
  h.kept hg (by
    rcases h.2 with ⟨rfl, _⟩ | ⟨g', cap, cur, rfl, _, hg', _⟩
    · exact .inl rfl
    · right
      intro he
      have : g' = g := by simpa [Value.ownBlock] using he
      subst this
      exact Blk.other (hg' : Blk w g' e cur) hB hne rfl)
theorem SMapSB.grown (h : SMapSB w bm xs) {g : Nat} {t : TypeId} {cs : Array Value} (hg : w.grownBy w' (some g)) (hne : bm ≠ g) (hB : Blk w g t cs) (ht : 225 ≠ t) : SMapSB w' bm xs := by
  obtain ⟨v, hb, ho⟩ := h.row
  exact ⟨⟨v, hb.grown hg (by simpa using hne), own_grown_typSB ho hg hB ht⟩, h.up, h.ok⟩
theorem SMapSB.below (h : SMapSB w bm xs) (hb : Below w.heap.size w w') : SMapSB w' bm xs := by
  obtain ⟨v, hB, ho⟩ := h.row
  exact ⟨⟨v, hB.below hb hB.lt, own_kept ho hb⟩, h.up, h.ok⟩
theorem SMapSB.drewN (h : SMapSB w bm xs) (n : Nat) : SMapSB (w.drewN n) bm xs := h.below (below_drewN (Below.refl _ _) n)
theorem SMapSB.drew (h : SMapSB w bm xs) : SMapSB w.drew bm xs := h.below (Below.refl _ _).drew
theorem flat1SB (xs : List (ByteArray × Bool)) : ∀ u ∈ xs.flatMap eCSB, u.oneCell' = true := fun u hu => by
  rw [List.mem_flatMap] at hu
  obtain ⟨x, _, hx⟩ := hu
  exact eCSB_one x u hx
end
set_option maxRecDepth 100000 in
theorem srtNewSB_any (w : World) :
    Calls Tryz.prog 131 #[ordFSB] w fun e w' => ∃ bm, e = .returned (.pointer (some ⟨bm, 0, none⟩)) ∧ SMapSB w' bm [] ∧ w.heap.size ≤ bm ∧ Below w.heap.size w w' := by
  have hB := Blk.new w 221 #[ordFSB, .slice none 0 0]
  have hb1 := (Below.refl w.heap.size w).alloc (Nat.le_refl _) (.cells #[ordFSB, .slice none 0 0] 221)
  have HF := Lib.hid (⟨⟨_, hB, World.ownsRow_nil _ 0 225 2⟩, List.Pairwise.nil, fun e he => by cases he⟩ : SMapSB _ w.heap.size [])
  have HB := Lib.hid hb1; clear hb1 hB
  have hnf : ∀ W, (binOp .eql 108 ordFSB Value.nilFunc).run Tryz.prog W = .ok (.bool false) W := fun W => by kernel_rfl
  go_enter Tryz.func131, Tryz.ntmps131
  go_wp2_with fail
  go_ret
  exact ⟨_, rfl, HF.out, Nat.le_refl _, HB.out⟩
/-- the answer of find -/
def FindPostSB (k : ByteArray) (xs : List (ByteArray × Bool)) (w : World) (e : Ending) (w' : World) : Prop :=
  e = .returned (.tuple #[.int .i64 (lbN ordS k xs), .bool (inN ordS k xs)]) ∧ Below w.heap.size w w'
set_option maxRecDepth 100000 in
set_option maxHeartbeats 2000000 in
theorem srtFindSB_any (w : World) (bm : Nat) (xs : List (ByteArray × Bool)) (k : ByteArray) (h : SMapSB w bm xs) (hn : xs.length ≤ 1000000) (hk : okS k) :
    Calls Tryz.prog 169 #[.pointer (some ⟨bm, 0, none⟩), Value.string k] w (FindPostSB k xs w) := by
  obtain ⟨v, hb, ho⟩ := h.row
  have hord := h.ord
  have hB := Blk.new w 190 #[.pointer (some ⟨bm, 0, none⟩)]
  have hb1 := (Below.refl w.heap.size w).alloc (Nat.le_refl _) (.cells #[.pointer (some ⟨bm, 0, none⟩)] 190)
  have hg1 : (w.alloc (.cells #[.pointer (some ⟨bm, 0, none⟩)] 190)).cell? ⟨w.heap.size, 0, none⟩ = some (.pointer (some ⟨bm, 0, none⟩)) := hB.cell 0
  have hbl := hb.lt
  have hm0 := (hb1.cell (p := ⟨bm, 0, none⟩) hbl).trans hord
  have hm1 : (w.alloc (.cells #[.pointer (some ⟨bm, 0, none⟩)] 190)).cell? ⟨bm, 1, none⟩ = some v := (hb1.cell (p := ⟨bm, 1, none⟩) hbl).trans (hb.cell 1)
  have hsz := hB.lt
  obtain ⟨A, c, rfl, hc1, hc2, hsl⟩ := SlV.of_own (own_kept ho hb1) eCSB_len (by decide)
  have HS := Lib.hid (slSearchSB_any eCSB eCSB_len (fun e => ordS e.1 k) (w.alloc (.cells #[.pointer (some ⟨bm, 0, none⟩)] 190)) A xs.length c w.heap.size xs (Value.string k) rfl hn hsl
    (fun a b ha hb' hab hlt => by
      rcases Nat.lt_or_ge a b with h1 | h1
      · exact ordS_ord.trans _ _ _ (List.pairwise_iff_getElem.1 h.up a b ha hb' h1) hlt
      · obtain rfl : a = b := by omega
        exact hlt)
    (fun W x hx hbW => find1SB_any W w.heap.size bm x k (h.ok x hx) hk ((hbW.cell (p := ⟨w.heap.size, 0, none⟩) hsz).trans hg1) ((hbW.cell (p := ⟨bm, 0, none⟩) (Nat.lt_of_lt_of_le hbl hb1.size)).trans hm0)))
  have hv1 : w.cell? ⟨bm, 1, none⟩ = some (.slice A xs.length c) := hb.cell 1
  have HF := Lib.hid (fun e w' (hp : SrchPostSB (fun e : ByteArray × Bool => ordS e.1 k) xs (w.alloc (.cells #[.pointer (some ⟨bm, 0, none⟩)] 190)) e w') => (by
    obtain ⟨i, hi, h1, h2, rfl, hbw⟩ := hp
    have hl := lbN_eq ordS_ord k xs i hi h1 h2
    subst hl
    refine ⟨?_, hb1.trans (hbw.mono hb1.size)⟩
    rw [inN_eq ordS_ord] : FindPostSB k xs w e w'))
  clear hb1 hB hb ho hord h hsl hm0 hm1 hg1 hsz
  generalize xs.length = n at *
  go_enter Tryz.func169, Tryz.ntmps169
  go_wp2_with fail
  refine HS.out.mono ?_
  rintro e w2 hp
  obtain ⟨rfl, hb2⟩ := HF.out _ _ hp
  clear hp HF HS
  go_wp2_with fail
  go_ret2
  exact ⟨rfl, hb2⟩
end Go.Proofs.YtnpehjgnplaabaaGreatDoor
/- sorted's iterators over string, bool: told, All, From, Back. -/
set_option linter.unusedVariables false
set_option linter.unusedSimpArgs false
namespace Go.Proofs.YtnpehjgnplaabaaGreatDoor
open Go Go.RowKit Go.Shelf
open Sw
attribute [local go_sem] Oper.semAt_some
set_option maxRecDepth 100000 in
set_option maxHeartbeats 4000000 in
theorem toldSB_tells (n : Nat) (hn : 1 ≤ n) (gb : Nat) (v : Value) (xs : List (ByteArray × Bool)) (w : World) (hgb : Blk w gb 219 #[v]) (hv : Lies w 225 2 eCSB v xs) (hl : xs.length ≤ 1000000) :
    SeqTells (fun _ => False) Fence.wide n Tryz.prog 223 #[.pointer (some ⟨gb, 0, none⟩)] (fun x : ByteArray × Bool => #[Value.string x.1, (Value.bool) x.2]) (KeepIt gb v) (fun ys => ys = xs) (fun pre => pre <+: xs) (fun pre => pre <+: xs) w := fun l J Jx W hW hJ hJx hY hJ0 => by
  have hB := hgb.below hW hgb.lt
  have hL := hv.below hW
  have c0 := hB.cell 0
  simp at c0
  have hL2 := hL
  obtain ⟨A, c, rfl, hc1, hc2, _⟩ := hL2
  have HB := Lib.hid (And.intro hgb hB); clear hgb hB
  have HL := Lib.hid hL; clear hL
  have HV := Lib.hid hv; clear hv
  have HJ := Lib.hid hJ; clear hJ
  have HY := Lib.hid hY; clear hY
  clear hJx
  refine callsIn_of_wp Tryz.func223 rfl trivial ?_ rfl
  simp only [Tryz.ntmps223, List.size_toArray, List.length_cons, List.length_nil, Nat.reduceAdd, Nat.reduceSub, Array.replicate_succ, Array.replicate_zero, List.push_toArray, List.append_toArray, List.nil_append, List.cons_append]
  gi_wp2
  gi_loopw [7] (fun iv wr => ∃ k : Nat, iv = .int .i64 k ∧ k ≤ xs.length ∧ J (xs.take k) wr ∧ KeepIt gb (.slice A xs.length c) W wr) (fun iv _ => xs.length - (intOf iv).toNat)
  case atStart => exact ⟨0, rfl, Nat.zero_le _, hJ0, ⟨Nat.le_refl _, rfl, fun _ _ => rfl⟩⟩
  case round =>
    obtain ⟨k, rfl, hk, hJs, hK⟩ := hrel
    by_cases hlt : k < xs.length
    · have hLr := HL.out.kept (fun g _ hg _ => hK.row g hg)
      obtain ⟨A', c', hA, _, _, hsl⟩ := hLr.slv eCSB_len
      obtain ⟨rfl, rfl⟩ : A = A' ∧ c = c' := by injection hA with e1 e2 e3; exact ⟨e1, e3⟩
      obtain ⟨b, off, rfl, hbb, hcs⟩ := hsl (by omega)
      have hr := (hsl.range eCSB_len k hlt)
      have hJ1 := HJ.out _ wr (wr.alloc (.cells (eCSB xs[k]).toArray 225)) none hJs (grown_alloc (grown_refl wr none) _) (fun r h => by cases h)
      have hK1 : KeepIt gb (.slice (some ⟨b, off, none⟩) xs.length c) W (wr.alloc (.cells (eCSB xs[k]).toArray 225)) := hK.trans (.below ((Below.refl wr.heap.size wr).alloc (Nat.le_refl _) _) (Nat.lt_of_lt_of_le HB.out.2.lt hK.size) (fun g hg => by cases hg; exact hbb))
      have htk : xs.take (k + 1) = xs.take k ++ [xs[k]] := by rw [List.take_succ_eq_append_getElem hlt]
      have hy := HY.out (xs.take k) xs[k] _ hJ1 (by rw [← htk]; exact List.take_prefix _ _)
      rw [← htk] at hy
      generalize xs[k] = x at *
      have HQ := Lib.hid (And.intro hJ1 hK1); clear hJ1 hK1 hcs hJs hK hsl hLr htk
      have q0 := hr 0 _ rfl
      have q1 := hr 1 _ rfl
      simp only [Nat.add_zero] at q0 q1
      have hki : (k : Int) < xs.length := by omega
      obtain ⟨fn, tmps, assign, body, hyy, hR⟩ := hy
      try dsimp only at hyy
      simp only [eCSB] at hyy hR
      clear hr
      gi_wp2
      refine hR.mono ?_
      rintro e W3 (⟨rfl, hJ3, hk3⟩ | ⟨rfl, hJx3⟩)
      · have hK3 := HQ.out.2.trans hk3
        have HZ := Lib.hid (And.intro hJ3 hK3); clear hJ3 hk3 hK3
        gi_wp2
        go_roundw
        case rel => exact ⟨k + 1, by go_num, by omega, HZ.out.1, HZ.out.2⟩
        case measure => simp [intOf]; omega
      · gi_wp2
        refine bodyPost_ret (results_none rfl _ _ _) rfl ?_
        exact ⟨⟨_, rfl⟩, .inr ⟨_, List.take_prefix _ _, hJx3⟩⟩
    · obtain rfl : k = xs.length := by omega
      rw [List.take_length] at hJs
      gi_wp2
      go_end0
      exact ⟨⟨_, rfl⟩, .inl ⟨_, rfl, hJs⟩⟩
theorem toldSB_stops (n : Nat) (hn : 1 ≤ n) (gb : Nat) (v : Value) (xs : List (ByteArray × Bool)) (w : World) (hgb : Blk w gb 219 #[v]) (hv : Lies w 225 2 eCSB v xs) (hl : xs.length ≤ 1000000) :
    SeqStopsK Fence.wide n Tryz.prog 223 #[.pointer (some ⟨gb, 0, none⟩)] (fun x : ByteArray × Bool => #[Value.string x.1, (Value.bool) x.2]) (KeepIt gb v) (fun ys => ys = xs) (fun pre => pre <+: xs) xs.length w :=
  fun l J Jx W hW hJ hJx hY hJ0 => toldSB_tells n hn gb v xs w hgb hv hl l J Jx W hW (fun s A B row hs hg hr => hJ s A B row hs hg (fun r e => (hr r e).resolve_left id)) (fun s A B row hs hg hr => hJx s A B row hs hg (fun r e => (hr r e).resolve_left id))
    (fun pre x W1 h1 h2 => hY pre x W1 h1 (by obtain ⟨r, hr⟩ := h2; rw [← hr]; simp only [List.length_append, List.length_singleton]; omega)) hJ0
/-- an iterator over the entries xs -/
def SeqOfSB (xs : List (ByteArray × Bool)) (w : World) (e : Ending) (w' : World) : Prop :=
  ∃ gb v, e = .returned (.func (.func 223) #[] #[.pointer (some ⟨gb, 0, none⟩)]) ∧ Blk w' gb 219 #[v] ∧ Lies w' 225 2 eCSB v xs ∧ w.heap.size ≤ gb ∧ (∀ g, v.ownBlock = some g → g < w'.heap.size) ∧ Below w.heap.size w w'
set_option maxRecDepth 100000 in
theorem toldSB_any (w : World) (v : Value) (xs : List (ByteArray × Bool)) (hv : Lies w 225 2 eCSB v xs) (hb : ∀ g, v.ownBlock = some g → g < w.heap.size) :
    Calls Tryz.prog 204 #[v] w (SeqOfSB xs w) := by
  have hbl : Below w.heap.size w (w.alloc (.cells #[v] 219)) := (Below.refl _ _).alloc (Nat.le_refl _) _
  have HF := Lib.hid (⟨w.heap.size, v, rfl, Blk.new _ _ _, hv.below hbl, Nat.le_refl _, fun g hg => by have := hb g hg; simp; omega, hbl⟩ : SeqOfSB xs w (.returned (.func (.func 223) #[] #[.pointer (some ⟨w.heap.size, 0, none⟩)])) (w.alloc (.cells #[v] 219)))
  obtain ⟨A, c, rfl, _, _, _⟩ := hv
  clear hb hbl
  go_enter Tryz.func204, Tryz.ntmps204
  go_wp2_with fail
  go_ret
  exact HF.out
theorem SeqOfSB.mono {xs : List (ByteArray × Bool)} {w w1 : World} {e : Ending} {w' : World} (h : SeqOfSB xs w1 e w') (hb : Below w.heap.size w w1) : SeqOfSB xs w e w' := by
  obtain ⟨gb, v, he, h1, h2, h3, h4, h5⟩ := h
  exact ⟨gb, v, he, h1, h2, Nat.le_trans hb.size h3, h4, hb.trans (h5.mono hb.size)⟩
set_option maxRecDepth 100000 in
theorem srtAllSB_any (w : World) (bm : Nat) (xs : List (ByteArray × Bool)) (h : SMapSB w bm xs) :
    Calls Tryz.prog 172 #[.pointer (some ⟨bm, 0, none⟩)] w (SeqOfSB xs w) := by
  obtain ⟨v, hb, ho⟩ := h.row
  have hL := Lies.of_own ho eCSB_len (by decide)
  have hlt := fun g hg => (ho.lt g hg).2
  obtain ⟨A, c, rfl, _, _, _⟩ := SlV_of_any ho
  have HT := Lib.hid (toldSB_any w _ xs hL hlt)
  have hv1 : w.cell? ⟨bm, 1, none⟩ = some (.slice A xs.length c) := hb.cell 1
  clear hL hb ho h hlt
  go_enter Tryz.func172, Tryz.ntmps172
  go_wp2_with fail
  refine HT.out.mono ?_
  rintro e w1 ⟨gb, v, rfl, h1, h2, h3, h4, h5⟩
  have HF := Lib.hid (⟨gb, v, rfl, h1, h2, h3, h4, h5⟩ : SeqOfSB xs w (.returned (.func (.func 223) #[] #[.pointer (some ⟨gb, 0, none⟩)])) w1)
  clear h1 h2 h3 h4 h5 HT
  go_wp2_with fail
  go_ret
  exact HF.out
end Go.Proofs.YtnpehjgnplaabaaGreatDoor
/- sorted.Keys over string, bool. -/
set_option linter.unusedVariables false
set_option linter.unusedSimpArgs false
namespace Go.Proofs.YtnpehjgnplaabaaGreatDoor
open Go Go.RowKit Go.Shelf
open Sw
attribute [local go_sem] Oper.semAt_some
theorem infoKSB : (Tryz.prog.info? 9).map (fun i => (i.zero, i.size, i.bytes)) = some (some (.string ⟨#[]⟩), 1, 16) := by kernel_rfl
def KeysISB (T gb : Nat) (v : Value) (xs : List (ByteArray × Bool)) (pre : List (ByteArray × Bool)) (W : World) : Prop := T + 1 ≤ W.heap.size ∧ (∃ o, Blk W T 34 #[o] ∧ W.ownsRow T 9 1 o pre.length (pre.map fun e => Value.string e.1)) ∧ Blk W gb 219 #[v] ∧ Lies W 225 2 eCSB v xs
theorem KeysISB.own (T gb : Nat) (v : Value) (xs : List (ByteArray × Bool)) : Own (KeysISB T gb v xs) := fun _ A B row hs hg hr => ⟨Nat.le_trans hs.1 hg.size, by obtain ⟨o, h1, h2⟩ := hs.2.1; exact ⟨o, blk_ownF h1 hg hr, own_ownF h2 hg hr⟩, blk_ownF hs.2.2.1 hg hr, hs.2.2.2.ownF hg hr⟩
set_option maxRecDepth 100000 in
set_option maxHeartbeats 4000000 in
theorem keysSB_any (w : World) (bm : Nat) (xs : List (ByteArray × Bool)) (h : SMapSB w bm xs) (hl : xs.length ≤ 100000) :
    Calls Tryz.prog 134 #[.pointer (some ⟨bm, 0, none⟩)] w fun e w' => ∃ u, e = .returned u ∧ w'.ownsRow w.heap.size 9 1 u xs.length (xs.map fun e => Value.string e.1) ∧ Below w.heap.size w w' := by
  have hBa : Below w.heap.size w (w.alloc (.cells #[.slice none 0 0] 34)) := (Below.refl _ w).alloc (Nat.le_refl _) _
  have HA := Lib.hid (srtAllSB_any _ bm xs (h.below hBa))
  refine callsIn_wide.1 (?_ : CallsIn Fence.wide 9 _ _ _ _ _)
  refine callsIn_of_wp_marks Tryz.func134 rfl trivial ?_ rfl
  simp only [Tryz.ntmps134, List.size_toArray, List.length_cons, List.length_nil, Nat.reduceAdd, Nat.reduceSub, Array.replicate_succ, Array.replicate_zero, List.push_toArray, List.append_toArray, List.nil_append, List.cons_append]
  gi_wp2
  refine ⟨trivial, ?_⟩
  refine (callsIn_wide.2 HA.out).mono ?_
  rintro e w2 ⟨gb, v, rfl, hgb2, hv2, hge, hvb, hb2⟩
  have b1 := (Blk.new w 34 #[.slice none 0 0]).below hb2 (by simp)
  have hB := hBa.trans (hb2.mono hBa.size)
  have hz := hb2.size
  simp only [World.size_alloc] at hz hge
  gi_wp2
  obtain ⟨T, hT⟩ : ∃ T, T = w.heap.size := ⟨_, rfl⟩
  rw [← hT] at b1 hB hz hge ⊢
  have hgl := hgb2.lt
  have HTE := Lib.hid hT; clear hT
  refine wpIn_rangeFunc_ownF rfl (by omega) (gf := 223) (lb := #[.pointer (some ⟨gb, 0, none⟩)]) rfl trivial (enters_of Tryz.func223 (by kernel_rfl) rfl)
    (toldSB_stops 8 (by omega) gb v xs w2 hgb2 hv2 (by omega)) KeepIt.trans (keepIt_b hgl hvb) (Below.refl _ _) (fun _ => rfl)
    (fun pre W => KeysISB T gb v xs pre W ∧ Below T w W)
    (fun _ _ _ => False)
    (OwnFrom.and (Own.from (KeysISB.own T gb v xs) _) (ownFrom_below (by have := HTE.out; omega) (by omega)))
    (fun _ _ _ _ _ hs _ _ => hs)
    ⟨⟨by omega, ⟨_, b1, World.ownsRow_nil _ _ _ _⟩, hgb2, hv2⟩, hB⟩
    ?a1 ?assign ?body ?done ?stop
  case assign =>
    intro l x W K hK
    gi_wp2
    exact hK
  case body =>
    rintro l pre x W ⟨⟨hsz, ⟨o, b1, ho⟩, hg, hL⟩, hB⟩ hlt
    have m1 := b1.cell 0
    have f1 := b1.frozen 0
    simp at m1
    obtain ⟨A3, c3, rfl, _, _, _⟩ := SlV_of_any ho
    have HH := Lib.hid (And.intro b1 (And.intro ho (And.intro hg (And.intro hL hB)))); clear b1 ho hg hL hB
    gi_wp2_with (gi_at_builtin; refine wpListIn_app rfl _ _ 34 rfl T 9 (.string ⟨#[]⟩) 1 16 Tryz.underlying34 infoKSB rfl (by decide) _ pre.length _ rfl (HH.out.2.1.alloc _) W.heap.size 1 #[Value.string x.1] 9 rfl (Blk.new _ _ _) rfl (by simp [Value.oneCell']) (by omega) (by decide) (by simp; omega) _ rfl ?_; intro g cap w5 hown1 hgrow1 hat hlt1; have hb5 := app_pre HH.out.1 HH.out.2.1 ((Below.refl _ _).alloc (Nat.le_refl _) _) hgrow1 (by decide); have c5 := hb5.cell 0; have f5 := hb5.frozen 0; simp at c5)
    have hA := app_body HH.out.1 HH.out.2.1 ((Below.refl _ _).alloc (Nat.le_refl _) _) hgrow1 hown1 (by omega) (Nat.le_refl _) (by decide)
    have hK := hA.keepIt HH.out.2.2.1 HH.out.2.2.2.1 (by omega) (by decide) (by omega) (by decide) (by decide)
    refine ⟨hA.keeps, hK, ⟨Nat.le_trans hsz hA.below.size, ⟨_, hA.box, ?_⟩, hA.far _ _ _ HH.out.2.2.1 (by decide) (by omega), HH.out.2.2.2.1.kept (fun g cur h _ => hK.row g h)⟩, HH.out.2.2.2.2.trans hA.below⟩
    have := hA.own
    rw [List.length_append, List.map_append]
    simpa using this
  case done =>
    rintro D ys W hD rfl ⟨⟨hsz, ⟨o, b1, ho⟩, hg, hL⟩, hB⟩ hK
    have m1 := b1.cell 0
    have f1 := b1.frozen 0
    simp at m1
    obtain ⟨A3, c3, rfl, _, _, _⟩ := SlV_of_any ho
    have hD' : w.heap.size ≤ D := by have := HTE.out; omega
    have HF := Lib.hid (by
      have hb2 := b1.put 0 (.slice A3 ys.length c3)
      have ho2 := ho.kept (grown_put (grown_refl W (some T)) 0 (.slice A3 ys.length c3)) (.inr (own_ne_blk ho b1 (by decide)))
      have hK2 := (KeepsOthers.setCell W ⟨T, 0, none⟩ (.slice A3 ys.length c3)).same D _ hK rfl
      have hg := grownBy_putObj' (W.setCell ⟨T, 0, none⟩ (.slice A3 ys.length c3)) D (.deferred none)
      have hw := fun r e => show ∃ o : Obj, (W.setCell ⟨T, 0, none⟩ (.slice A3 ys.length c3)).heap[r]? = some o ∧ o.isCells = false from (by cases (e : some D = some r); exact ⟨_, hK2, rfl⟩)
      have hB2 := hB.setCell (p := ⟨T, 0, none⟩) (Nat.le_refl _) (.slice A3 ys.length c3)
      exact And.intro hK2 (And.intro (blk_ownF hb2 hg hw) (And.intro (own_ownF ho2 hg hw) (hB2.trans (belowK_b (w := w) (by have := HTE.out; omega) _ D _ (.deferred none) hD' hK2 rfl rfl)))))
    clear ho hB b1 hg hL
    gi_wp2
    refine ⟨by simp, .inl ⟨_, _, rfl, run_takeDeferred HF.out.1, ?_⟩⟩
    refine ⟨_, res_cell_sl rfl _ _ T 34 (.slice A3 ys.length c3) rfl HF.out.2.1 Tryz.underlying34, ⟨_, rfl, ?_, ?_⟩⟩
    · rw [← HTE.out]; exact HF.out.2.2.1
    · rw [← HTE.out]; exact HF.out.2.2.2
  case stop =>
    rintro D c pre W hD hSp h hK
    exact h.elim
end Go.Proofs.YtnpehjgnplaabaaGreatDoor
