/- Several texts, joined for the limit of sixty files; each one opens with its own comment. -/
import Derived.Test.YtjcbjocgachpjaaGreatDoorJoin10
import Derived.Test.YtjcbjocgachpjaaGreatDoorJoin8
import Derived.Test.YtjcbjocgachpjaaGreatDoorJoin5
import Derived.Deep.RegionLaw
/- sorted.Map[string,swingle/api.Node]: what a map holds; find. -/
set_option linter.unusedVariables false
set_option linter.unusedSimpArgs false
namespace Go.Proofs.YtjcbjocgachpjaaGreatDoor
open Go Go.RowKit
open Sw
/-- an entry's cells -/
def eCSN (e : ByteArray × Nd) : List Value := [.string e.1, .int .i64 e.2.kind, .int .i64 e.2.mode, .int .u32 e.2.time, .string e.2.data]
theorem eCSN_len (e : ByteArray × Nd) : (eCSN e).length = 5 := rfl
theorem eCSN_one (e : ByteArray × Nd) : ∀ u ∈ eCSN e, u.oneCell' = true := by
  intro u hu
  simp only [eCSN, List.mem_cons, List.mem_append, List.not_mem_nil, or_false] at hu
  rcases hu with rfl | rfl | rfl | rfl | rfl <;> rfl
abbrev ordFSN : Value := .func (.func 38) #[] #[]
/-- the map in block bm holds the entries xs -/
structure SMapSN (w : World) (bm : Nat) (xs : List (ByteArray × Nd)) : Prop where
  row : ∃ v, Blk w bm 127 #[ordFSN, v] ∧ w.ownsRow 0 135 5 v xs.length (xs.flatMap eCSN)
  up : Up ordS xs
  ok : ∀ e ∈ xs, okS e.1
set_option maxRecDepth 100000 in
set_option maxHeartbeats 2000000 in
theorem find1SN_any (w : World) (g bm : Nat) (e : ByteArray × Nd) (k : ByteArray) (he : okS e.1) (hk : okS k) (hg : w.cell? ⟨g, 0, none⟩ = some (.pointer (some ⟨bm, 0, none⟩))) (hm : w.cell? ⟨bm, 0, none⟩ = some ordFSN) :
    Calls Tryz.prog 117 #[.agg (eCSN e).toArray, Value.string k, .pointer (some ⟨g, 0, none⟩)] w fun r w' => r = .returned (.int .i64 (ordS e.1 k)) ∧ Below w.heap.size w w' := by
  have HO := Lib.hid (fun W => orderS_any W e.1 k he hk)
  have hB := Blk.new w 135 (eCSN e).toArray
  have hb1 := (Below.refl w.heap.size w).alloc (Nat.le_refl _) (.cells (eCSN e).toArray 135)
  have hgl := World.block_lt_of_cell? w _ hg
  have hml := World.block_lt_of_cell? w _ hm
  have hg1 := (hb1.cell (p := ⟨g, 0, none⟩) hgl).trans hg
  have hm1 := (hb1.cell (p := ⟨bm, 0, none⟩) hml).trans hm
  have hlt := hB.lt
  have hk0 : (w.alloc (.cells (eCSN e).toArray 135)).cell? ⟨w.heap.size, 0, none⟩ = some (Value.string e.1) := hB.cell 0
  clear hg hm hB
  generalize ordS e.1 k = r at *
  have l1 : ∀ m : Held (Aft (w.alloc (.cells (eCSN e).toArray 135))), (HeldW m).cell? ⟨g, 0, none⟩ = some (.pointer (some ⟨bm, 0, none⟩)) := fun m => (Aft.cell m (p := ⟨g, 0, none⟩) (Nat.lt_of_lt_of_le hgl hb1.size)).trans hg1
  have l2 : ∀ m : Held (Aft (w.alloc (.cells (eCSN e).toArray 135))), (HeldW m).cell? ⟨bm, 0, none⟩ = some ordFSN := fun m => (Aft.cell m (p := ⟨bm, 0, none⟩) (Nat.lt_of_lt_of_le hml hb1.size)).trans hm1
  have l3 : ∀ m : Held (Aft (w.alloc (.cells (eCSN e).toArray 135))), (HeldW m).cell? ⟨w.heap.size, 0, none⟩ = some (Value.string e.1) := fun m => (Aft.cell m (p := ⟨w.heap.size, 0, none⟩) hlt).trans hk0
  have HB1 := Lib.hid hb1; clear hb1 hg1 hm1 hk0
  haveI := Aft.some (w.alloc (.cells (eCSN e).toArray 135))
  generalize (eCSN e).toArray = ec at *
  go_enter Tryz.func117, Tryz.ntmps117
  go_wp2_with fail
  refine wp_region_class (Aft (w.alloc (.cells ec 135))) (by kernel_rfl) (by kernel_rfl) (Aft.start _) ?_
  repeat (go_big_quiet_step (with_reducible exact held_below Aft.keep (HO.out _)))
  refine wpQuiet_nil ?_
  rintro _ ⟨nn, rfl⟩
  have HW : Hid (Below (w.alloc (.cells ec 135)).heap.size (w.alloc (.cells ec 135)) (HeldW nn)) := Lib.hid (HeldW_spec nn)
  go_wp2_with fail
  go_ret
  exact ⟨rfl, HB1.out.trans (HW.out.mono HB1.out.size)⟩
end Go.Proofs.YtjcbjocgachpjaaGreatDoor
/- slices.Insert of one element into a row of sorted.entry[string,swingle/api.Node] that the call owns. -/
set_option linter.unusedVariables false
set_option linter.unusedSimpArgs false
namespace Go.Proofs.YtjcbjocgachpjaaGreatDoor
open Go Go.RowKit
open Sw
/-- behind the call: a row with one more element -/
def InsPostSN (base n : Nat) (xs : List Value) (row : Option Nat) (w : World) (e : Ending) (w' : World) : Prop :=
  ∃ g cap, e = .returned (.slice (some ⟨g, 0, none⟩) (n + 1) cap) ∧ w'.ownsRow base 135 5 (.slice (some ⟨g, 0, none⟩) (n + 1) cap) (n + 1) xs ∧ w.grownBy w' row ∧ (row = some g ∨ w.heap.size ≤ g)
set_option maxRecDepth 100000 in
set_option maxHeartbeats 2000000 in
/-- at the end -/
theorem slInsertSN_end (w : World) (base : Nat) (v : Value) (n vb : Nat) (xs : List Value) (te : TypeId) (cx : Array Value) (hown : w.ownsRow base 135 5 v n xs) (hvb : Blk w vb te cx) (hcx : cx.size = 5) (h1x : ∀ u ∈ cx.toList, u.oneCell' = true) (hn : n + 1 ≤ 1000000) (hbase : base ≤ w.heap.size) :
    Calls Tryz.prog 81 #[v, .int .i64 n, .slice (some ⟨vb, 0, none⟩) 1 1] w (InsPostSN base n (xs ++ cx.toList) v.ownBlock w) := by
  have hfin : ∀ g cap w', w'.ownsRow base 135 5 (.slice (some ⟨g, 0, none⟩) (n + 1) cap) (n + 1) (xs ++ cx.toList) → w.grownBy w' v.ownBlock → (v.ownBlock = some g ∨ g = w.heap.size) →
      InsPostSN base n (xs ++ cx.toList) v.ownBlock w (.returned (.slice (some ⟨g, 0, none⟩) (n + 1) cap)) w' := fun g cap w' h1 h2 h3 => ⟨g, cap, rfl, h1, h2, by rcases h3 with h | h; exact .inl h; exact .inr (by omega)⟩
  have HF := Lib.hid hfin; clear hfin
  have HO := Lib.hid hown
  have HB := Lib.hid hvb; clear hvb
  rcases hown.2 with ⟨rfl, rfl⟩ | ⟨g, cap, cur, rfl, hbg, hg, hnc, hcm, hcs, htk⟩
  · clear hown
    go_enter Tryz.func81, Tryz.ntmps81
    go_wp2_with (at_builtin; refine wpList_app rfl _ _ 125 rfl base 135 (.agg #[.string ⟨#[]⟩, .int .i64 0, .int .i64 0, .int .u32 0, .string ⟨#[]⟩]) 5 56 Tryz.underlying125 infoESN rfl (by decide) _ 0 xs rfl HO.out vb 1 cx te rfl HB.out hcx h1x (by omega) (by decide) hbase _ rfl ?_; intro g cap w1 hown1 hgrow1 hat hlt)
    have HP := Lib.hid (HF.out g cap w1 hown1 hgrow1 hat); clear hown1 hgrow1 hat
    go_wp2_with fail
    go_ret
    exact HP.out
  · clear hown htk hg hcs
    unfold maxLen at hcm
    go_enter Tryz.func81, Tryz.ntmps81
    go_wp2_with (at_builtin; refine wpList_app rfl _ _ 125 rfl base 135 (.agg #[.string ⟨#[]⟩, .int .i64 0, .int .i64 0, .int .u32 0, .string ⟨#[]⟩]) 5 56 Tryz.underlying125 infoESN rfl (by decide) _ n xs rfl HO.out vb 1 cx te rfl HB.out hcx h1x (by omega) (by decide) hbase _ rfl ?_; intro g cap w1 hown1 hgrow1 hat hlt)
    all_goals
      have HP := Lib.hid (HF.out _ _ w1 hown1 hgrow1 hat); clear hown1 hgrow1 hat
      go_wp2_with fail
      go_ret
      exact HP.out
set_option maxRecDepth 100000 in
set_option maxHeartbeats 4000000 in
/-- in the midst, where there is room -/
theorem slInsertSN_room (w : World) (base g cap n i vb : Nat) (cur : Array Value) (te : TypeId) (cx : Array Value) (hbg : base ≤ g) (hg : Blk w g 135 cur) (hcs : cur.size = cap * 5) (h1c : ∀ u ∈ cur.toList.take (n * 5), u.oneCell' = true) (hvb : Blk w vb te cx) (hne : vb ≠ g) (hcx : cx.size = 5) (h1x : ∀ u ∈ cx.toList, u.oneCell' = true) (hi : i < n) (hroom : n + 1 ≤ cap) (hcm : cap ≤ maxLen) :
    Calls Tryz.prog 81 #[.slice (some ⟨g, 0, none⟩) n cap, .int .i64 i, .slice (some ⟨vb, 0, none⟩) 1 1] w
      (InsPostSN base n (cur.toList.take (i * 5) ++ cx.toList ++ (cur.toList.take (n * 5)).drop (i * 5)) (some g) w) := by
  have hov : ∀ lb cb W, Blk W g 135 cur → Blk W vb te cx → (callFunc 118 #[.slice (some ⟨vb, 0, none⟩) 1 1, .slice (some ⟨g, (i + 1) * 5, none⟩) lb cb]).run Tryz.prog W = .ok (.value (.bool false)) W := fun lb cb W h1 h2 => by
    rw [run_callFunc_extern Tryz.func118 (by kernel_rfl) (by kernel_rfl) (by kernel_rfl) (e := Extern.SlicesOverlaps.overlaps #[125, 125] #[4]) (by kernel_rfl),
      Lib.run_overlaps_apart W 125 4 135 Tryz.underlying125 5 Tryz.sizeOf135 ⟨vb, 0, none⟩ ⟨g, (i + 1) * 5, none⟩ 1 1 lb cb hne te 135 cx.size cur.size h2.shape h1.shape (by rw [hcs]; omega) (h2.frozen 0) (h2.frozen cx.size)]
    rfl
  unfold maxLen at hcm
  have hc1 : cur.toList.length = cap * 5 := by rw [Array.length_toList]; exact hcs
  obtain ⟨q1, q2, q3, q4⟩ := ins_cells cur.toList cx.toList (i * 5) (n * 5) 5 (by omega) (by omega) (by simpa using hcx)
  obtain ⟨cs, hcsd⟩ : ∃ cs, (cur.toList.take (n * 5)).drop (i * 5) = cs := ⟨_, rfl⟩
  simp only [hcsd] at q1 q2 q3 q4
  rw [hcsd]
  obtain ⟨W1, hW1⟩ : ∃ W1, w.drew.setRow g (cur.toList.take ((i + 1) * 5) ++ cs ++ cur.toList.drop ((i + 1) * 5 + cs.length)).toArray = W1 := ⟨_, rfl⟩
  have hcp1 : ∀ ty dc sc, (Builtin.copy_ #[125, 125] ty #[.slice (some ⟨g, (i + 1) * 5, none⟩) (n - i) dc, .slice (some ⟨g, i * 5, none⟩) (n + 1 - i) sc]).run Tryz.prog w.drew = .ok (goInt (n - i : Nat)) W1 := fun ty dc sc => by
    rw [← hW1]
    refine run_copy_rows w.drew _ _ ty 135 5 g _ _ dc _ _ sc cur 135 cs (n - i) Tryz.underlying125 (by kernel_rfl) hg.drew (by simp only [Nat.min_def]; split <;> omega) (by rw [q4]; omega) (fun j v hj => ?_) (by rw [q4]; omega) (fun v hv => h1c v ?_)
    · refine hg.drew.at _ j v ?_
      rw [← hcsd] at hj
      rw [List.getElem?_drop, List.getElem?_take] at hj
      split at hj
      · rw [List.getElem?_drop]; exact hj
      · cases hj
    · rw [← hcsd] at hv; exact List.mem_of_mem_drop hv
  have hg1 : Blk W1 g 135 (cur.toList.take ((i + 1) * 5) ++ cs ++ cur.toList.drop ((i + 1) * 5 + cs.length)).toArray := by rw [← hW1]; exact hg.drew.setRow _
  have hgr1 : w.grownBy W1 (some g) := by rw [← hW1]; exact grown_of_drew (grown_setRow _ _ _)
  have hvb1 : Blk W1 vb te cx := hvb.grown hgr1 (by simpa using hne)
  rw [show i * 5 + 5 = (i + 1) * 5 by omega] at q1 q2 q3
  generalize hr1 : cur.toList.take ((i + 1) * 5) ++ cs ++ cur.toList.drop ((i + 1) * 5 + cs.length) = r1 at *
  obtain ⟨W2, hW2⟩ : ∃ W2, W1.setRow g (r1.take (i * 5) ++ cx.toList ++ r1.drop (i * 5 + cx.toList.length)).toArray = W2 := ⟨_, rfl⟩
  have hcp2 : ∀ ty dc, (Builtin.copy_ #[125, 125] ty #[.slice (some ⟨g, i * 5, none⟩) (n + 1 - i) dc, .slice (some ⟨vb, 0, none⟩) 1 1]).run Tryz.prog W1 = .ok (goInt (1 : Nat)) W2 := fun ty dc => by
    rw [← hW2]
    have := run_copy_rows (P := Tryz.prog) W1 125 125 ty 135 5 g (i * 5) (n + 1 - i) dc ⟨vb, 0, none⟩ 1 1 r1.toArray 135 cx.toList 1 Tryz.underlying125 (by kernel_rfl) hg1 (by simp only [Nat.min_def]; split <;> omega) (by simpa using hcx) (World.news_of_block hvb1) (by rw [List.size_toArray, q3, Array.length_toList]; omega) h1x
    simpa using this
  have hg2 : Blk W2 g 135 (r1.take (i * 5) ++ cx.toList ++ r1.drop (i * 5 + cx.toList.length)).toArray := by rw [← hW2]; exact hg1.setRow _
  have hgr2 : w.grownBy W2 (some g) := by rw [← hW2]; exact grown_trans hgr1 (grown_setRow _ _ _)
  have hfin : InsPostSN base n (cur.toList.take (i * 5) ++ cx.toList ++ cs) (some g) w (.returned (.slice (some ⟨g, 0, none⟩) (n + 1) cap)) W2 :=
    ⟨g, cap, rfl, own_mk hbg hg2 hroom (by unfold maxLen; omega) (by rw [List.size_toArray, q2, hc1]) (by rw [List.toList_toArray, ← q1]; congr 1; omega), hgr2, .inl rfl⟩
  have HF := Lib.hid hfin; clear hfin
  clear hgr1 hgr2 hg2 hg1 hvb1 hW1 hW2 q1 q2 q3 q4 hcsd hc1 hr1 h1c h1x
  have HV := Lib.hid (fun lb cb => hov lb cb w hg hvb); clear hov
  have hz1 : ¬ ((i : Int) = (n : Int)) := by omega
  have hw1 : IntKind.i64.wrap ((i : Int) + 1) = (i : Int) + 1 := by rw [IntKind.wrap_i64]; omega
  have hb1 : (0 : Int) ≤ (i : Int) + 1 := by omega
  have hin : i ≤ n := by omega
  have htn : ((i : Int) + 1).toNat = i + 1 := by omega
  have hb2 : ¬ (cap = i + 1) := by omega
  have hb3 : (i : Int) ≤ (n : Int) + 1 := by omega
  have hb4 : ¬ (cap = i) := by omega
  have hb5 : ¬ (cap : Int) < n + 1 := by omega
  clear hcs
  go_enter Tryz.func81, Tryz.ntmps81
  go_wp2_with (simp only [HV.out])
  go_region_law (refine step_copy_rows rfl _ _ 125 125 rfl _ _ (by simp [Act.eval, Act.put]) (by simp [Act.eval, Act.put]) (hcp1 _ _ _) ?_)
  go_wp2_with (at_builtin; refine wpList_copy_rows _ rfl _ _ 125 125 rfl _ _ rfl rfl (hcp2 _ _) ?_)
  go_ret
  exact HF.out
set_option maxRecDepth 100000 in
set_option maxHeartbeats 4000000 in
/-- in the midst, where there is no room -/
theorem slInsertSN_grow (w : World) (base g cap n i vb : Nat) (cur : Array Value) (te : TypeId) (cx : Array Value) (hg : Blk w g 135 cur) (hcs : cur.size = cap * 5) (h1c : ∀ u ∈ cur.toList.take (n * 5), u.oneCell' = true) (hvb : Blk w vb te cx) (hcx : cx.size = 5) (h1x : ∀ u ∈ cx.toList, u.oneCell' = true) (hi : i < n) (hnc : n ≤ cap) (hroom : cap < n + 1) (hn : n + 1 ≤ 1000000) (hbase : base ≤ w.heap.size) :
    Calls Tryz.prog 81 #[.slice (some ⟨g, 0, none⟩) n cap, .int .i64 i, .slice (some ⟨vb, 0, none⟩) 1 1] w
      (InsPostSN base n (cur.toList.take (i * 5) ++ cx.toList ++ (cur.toList.take (n * 5)).drop (i * 5)) (some g) w) := by
  obtain rfl : cap = n := by omega
  obtain ⟨i0, hi0, hz0, hzs, hzb⟩ := info_parts infoESN
  have hc1 : cur.toList.length = cap * 5 := by rw [Array.length_toList]; exact hcs
  have htk : cur.toList.take (cap * 5) = cur.toList := List.take_of_length_le (by omega)
  rw [htk] at h1c ⊢
  have hold : (Builtin.firstCells i0.size i (.slice (some ⟨g, 0, none⟩) i cap)).run Tryz.prog w.drew = .ok (cur.toList.take (i * 5)).toArray w.drew := by
    rw [hzs]
    exact run_firstCells_some w.drew 5 i ⟨g, 0, none⟩ i cap (cur.toList.take (i * 5)) (by rw [List.length_take]; omega) (fun j v hj => by
      refine hg.drew.at 0 j v ?_
      rw [List.getElem?_take] at hj
      split at hj
      · rw [List.drop_zero]; exact hj
      · cases hj)
  obtain ⟨G, hG⟩ : ∃ G, grownCap w (cap + 1) cap 135 = G := ⟨_, rfl⟩
  have hGn : cap + 1 ≤ G := by rw [← hG]; exact grownCap_ge w _ _ _
  have hG63 : G ≤ maxLen := by rw [← hG]; exact grownCap_le_maxLen w (cap + 1) cap 135 (by unfold maxLen; omega)
  obtain ⟨R, hR⟩ : ∃ R : Array Value, (cur.toList.take (i * 5)).toArray ++ Builtin.zeroCells (Value.cells (.agg #[.string ⟨#[]⟩, .int .i64 0, .int .i64 0, .int .u32 0, .string ⟨#[]⟩])) (cap + 1 - i) ++ Builtin.zeroCells (Value.cells (.agg #[.string ⟨#[]⟩, .int .i64 0, .int .i64 0, .int .u32 0, .string ⟨#[]⟩])) (G - (cap + 1)) = R := ⟨_, rfl⟩
  have hRl : R.size = G * 5 := by
    rw [← hR]
    simp only [Array.size_append, List.size_toArray, List.length_take, size_zeroCells, hc1]
    simp [Value.cells]
    omega
  have hRL : R.toList.length = G * 5 := by rw [Array.length_toList, hRl]
  have hRt : R.toList.take (i * 5) = cur.toList.take (i * 5) := by
    rw [← hR, Array.toList_append, Array.toList_append, List.toList_toArray, List.append_assoc, List.take_append_of_le_length (by rw [List.length_take]; omega), List.take_take, Nat.min_self]
  obtain ⟨W0, hW0⟩ : ∃ W0, w.drew.alloc (.cells R 135) = W0 := ⟨_, rfl⟩
  have hrz : ∀ ty, (Builtin.append_ #[125, 3] ty #[.slice (some ⟨g, 0, none⟩) i cap, .int .i64 ((cap : Int) + 1 - (i : Int))]).run Tryz.prog w = .ok (.slice (some ⟨w.heap.size, 0, none⟩) (cap + 1) G) W0 := fun ty => by
    have hik : i + (cap + 1 - i) = cap + 1 := by omega
    have h := Lib.run_append_grow_zeros w 125 3 ty 135 i0 _ .i64 .i64 Tryz.underlying125 Tryz.underlying3 hi0 hz0 (some ⟨g, 0, none⟩) i cap (cur.toList.take (i * 5)) hold (cap + 1 - i) (by omega) (by omega) (by omega) (by omega) (by rw [hzb]; omega) (by rw [hzb, hik]; exact growslice_fits (by omega) (by omega))
    rw [hik] at h
    rw [show (cap : Int) + 1 - (i : Int) = ((cap + 1 - i : Nat) : Int) by omega, h, hG, hR, hW0]
  have hb0 : Below w.heap.size w W0 := by rw [← hW0]; exact ((Below.refl _ w).drew).alloc (Nat.le_refl _) _
  have hg0 : Blk W0 w.heap.size 135 R := by rw [← hW0]; exact Blk.new w.drew _ _
  have hgl := hg.lt
  have hvl := hvb.lt
  have hga : Blk W0 g 135 cur := hg.below hb0 hgl
  have hva : Blk W0 vb te cx := hvb.below hb0 hvl
  have hdl : (cur.toList.drop (i * 5)).length = (cap - i) * 5 := by rw [List.length_drop]; omega
  obtain ⟨p1, p2, p3⟩ := ins_cells2 R.toList cx.toList (cur.toList.drop (i * 5)) (i * 5) 5 (by rw [hdl, Array.length_toList, hRl]; omega) (by simpa using hcx)
  generalize hr1 : R.toList.take (i * 5) ++ cx.toList ++ R.toList.drop (i * 5 + cx.toList.length) = r1 at *
  obtain ⟨W1, hW1⟩ : ∃ W1, W0.setRow w.heap.size r1.toArray = W1 := ⟨_, rfl⟩
  have hcp1 : ∀ ty dc, (Builtin.copy_ #[125, 125] ty #[.slice (some ⟨w.heap.size, i * 5, none⟩) (cap + 1 - i) dc, .slice (some ⟨vb, 0, none⟩) 1 1]).run Tryz.prog W0 = .ok (goInt (1 : Nat)) W1 := fun ty dc => by
    rw [← hW1, ← hr1]
    exact run_copy_rows (P := Tryz.prog) W0 125 125 ty 135 5 w.heap.size (i * 5) (cap + 1 - i) dc ⟨vb, 0, none⟩ 1 1 R 135 cx.toList 1 Tryz.underlying125 (by kernel_rfl) hg0 (by simp only [Nat.min_def]; split <;> omega) (by simpa using hcx) (World.news_of_block hva) (by rw [hRl, Array.length_toList, hcx]; omega) h1x
  have hg1 : Blk W1 w.heap.size 135 r1.toArray := by rw [← hW1]; exact hg0.setRow _
  have hb1 : Below w.heap.size w W1 := by rw [← hW1]; exact hb0.grown (grown_setRow _ _ _) hb0.size (fun k hk => by cases hk; exact Nat.le_refl _)
  have hga1 : Blk W1 g 135 cur := hg.below hb1 hgl
  obtain ⟨W2, hW2⟩ : ∃ W2, W1.drew.setRow w.heap.size (r1.take ((i + 1) * 5) ++ cur.toList.drop (i * 5) ++ r1.drop ((i + 1) * 5 + (cur.toList.drop (i * 5)).length)).toArray = W2 := ⟨_, rfl⟩
  have hcp2 : ∀ ty dc sc, (Builtin.copy_ #[125, 125] ty #[.slice (some ⟨w.heap.size, (i + 1) * 5, none⟩) (cap - i) dc, .slice (some ⟨g, i * 5, none⟩) (cap - i) sc]).run Tryz.prog W1.drew = .ok (goInt (cap - i : Nat)) W2 := fun ty dc sc => by
    rw [← hW2]
    have := run_copy_rows (P := Tryz.prog) W1.drew 125 125 ty 135 5 w.heap.size ((i + 1) * 5) (cap - i) dc ⟨g, i * 5, none⟩ (cap - i) sc r1.toArray 135 (cur.toList.drop (i * 5)) (cap - i) Tryz.underlying125 (by kernel_rfl) hg1.drew (by simp only [Nat.min_def]; split <;> omega) hdl (hga1.drew.at _) (by rw [List.size_toArray, p3, hRL]; omega) (fun v hv => h1c v (List.mem_of_mem_drop hv))
    simpa using this
  have hg2 : Blk W2 w.heap.size 135 (r1.take ((i + 1) * 5) ++ cur.toList.drop (i * 5) ++ r1.drop ((i + 1) * 5 + (cur.toList.drop (i * 5)).length)).toArray := by rw [← hW2]; exact hg1.drew.setRow _
  have hb2 : Below w.heap.size w W2 := by rw [← hW2]; exact (below_drewN hb1 1).grown (grown_setRow _ _ _) hb1.size (fun k hk => by cases hk; exact Nat.le_refl _)
  rw [show i * 5 + 5 = (i + 1) * 5 by omega] at p1 p2
  rw [hRt] at p1
  have hfin : InsPostSN base cap (cur.toList.take (i * 5) ++ cx.toList ++ cur.toList.drop (i * 5)) (some g) w (.returned (.slice (some ⟨w.heap.size, 0, none⟩) (cap + 1) G)) W2 :=
    ⟨w.heap.size, G, rfl, own_mk hbase hg2 hGn hG63 (by rw [List.size_toArray, p2, Array.length_toList, hRl]) (by rw [List.toList_toArray, ← p1]; congr 1; rw [hdl]; omega), ⟨hb2.os, hb2.tape, hb2.output, hb2.size, fun k hk _ => hb2.block k hk⟩, .inr (Nat.le_refl _)⟩
  have HF := Lib.hid hfin; clear hfin
  clear hb2 hg2 hb1 hg1 hga1 hb0 hg0 hga hva hW0 hW1 hW2 p1 p2 p3 hdl hr1 hRt hRl hR hG hold hi0 hz0 hzs hzb h1c h1x htk hc1 hg hvb hcs
  unfold maxLen at hG63
  have hz1 : ¬ ((i : Int) = (cap : Int)) := by omega
  have hw1 : IntKind.i64.wrap ((i : Int) + 1) = (i : Int) + 1 := by rw [IntKind.wrap_i64]; omega
  have hb1 : (0 : Int) ≤ (i : Int) + 1 := by omega
  have hin : i ≤ cap := by omega
  have htn : ((i : Int) + 1).toNat = i + 1 := by omega
  have hb2 : ¬ (cap = i + 1) ∨ cap = i + 1 := by omega
  have hb3 : (i : Int) ≤ (cap : Int) + 1 := by omega
  have hb4 : ¬ (cap = i) := by omega
  have hb5 : (cap : Int) < cap + 1 := by omega
  have hG1 : ¬ (G = i) := by omega
  have hG2 : ¬ (G = i + 1) := by omega
  clear hb2
  go_enter Tryz.func81, Tryz.ntmps81
  go_wp2_with (first
    | (at_builtin; refine Lib.wpList_append_run _ rfl _ _ _ _ rfl _ _ rfl rfl _ _ (hrz _) ?_)
    | (at_builtin; refine wpList_copy_rows _ rfl _ _ 125 125 rfl _ _ rfl rfl (hcp1 _ _) ?_))
  go_region_law (refine step_copy_rows rfl _ _ 125 125 rfl _ _ (by simp [Act.eval, Act.put]) (by simp [Act.eval, Act.put]) (hcp2 _ _ _) ?_)
  go_wp2_with fail
  go_ret
  exact HF.out
/-- one element more, at any place -/
theorem slInsertSN_any (w : World) (base : Nat) (v : Value) (n i vb : Nat) (xs : List Value) (te : TypeId) (cx : Array Value) (hown : w.ownsRow base 135 5 v n xs) (h1c : ∀ u ∈ xs, u.oneCell' = true) (hvb : Blk w vb te cx) (hne : v.ownBlock ≠ some vb) (hcx : cx.size = 5) (h1x : ∀ u ∈ cx.toList, u.oneCell' = true) (hi : i ≤ n) (hn : n + 1 ≤ 1000000) (hbase : base ≤ w.heap.size) :
    Calls Tryz.prog 81 #[v, .int .i64 i, .slice (some ⟨vb, 0, none⟩) 1 1] w (InsPostSN base n (xs.take (i * 5) ++ cx.toList ++ xs.drop (i * 5)) v.ownBlock w) := by
  by_cases hin : i = n
  · subst hin
    have hl := hown.1
    rw [List.take_of_length_le (by omega), List.drop_of_length_le (by omega), List.append_nil]
    exact slInsertSN_end w base v i vb xs te cx hown hvb hcx h1x hn hbase
  · obtain ⟨g, cap, cur, rfl, hbg, hg, h1, h2, h3, h4⟩ := own_form hown (by omega)
    subst h4
    have ht : ∀ k, k ≤ n → (cur.toList.take (n * 5)).take (k * 5) = cur.toList.take (k * 5) := fun k hk => by rw [List.take_take]; congr 1; omega
    rw [ht i (by omega)]
    have hneg : vb ≠ g := fun e => hne (by rw [e]; rfl)
    by_cases hroom : n + 1 ≤ cap
    · exact slInsertSN_room w base g cap n i vb cur te cx hbg hg h3 h1c hvb hneg hcx h1x (by omega) hroom h2
    · exact slInsertSN_grow w base g cap n i vb cur te cx hg h3 h1c hvb hcx h1x (by omega) h1 (by omega) hn hbase
end Go.Proofs.YtjcbjocgachpjaaGreatDoor
/- slices.Delete of one element out of a row of sorted.entry[string,swingle/api.Node] that the call owns. -/
set_option linter.unusedVariables false
set_option linter.unusedSimpArgs false
namespace Go.Proofs.YtjcbjocgachpjaaGreatDoor
open Go Go.RowKit
open Sw
end Go.Proofs.YtjcbjocgachpjaaGreatDoor
/- sorted.Map[string,swingle/api.Node]: New, find, Len, Clone, Drop, Put. -/
set_option linter.unusedVariables false
set_option linter.unusedSimpArgs false
namespace Go.Proofs.YtjcbjocgachpjaaGreatDoor
open Go Go.RowKit
open Sw
section
variable {w w' : World} {bm : Nat} {xs : List (ByteArray × Nd)}
theorem SMapSN.lt (h : SMapSN w bm xs) : bm < w.heap.size := by obtain ⟨v, hb, _⟩ := h.row; exact hb.lt
theorem SMapSN.ord (h : SMapSN w bm xs) : w.cell? ⟨bm, 0, none⟩ = some ordFSN := by obtain ⟨v, hb, _⟩ := h.row; exact hb.cell 0
theorem own_grown_typ {w w' : World} {base : Nat} {e : TypeId} {size n : Nat} {v : Value} {l : List Value} (h : w.ownsRow base e size v n l) {g : Nat} {t : TypeId} {cs : Array Value} (hg : w.grownBy w' (some g)) (hB : Blk w g t cs) (hne : e ≠ t) : w'.ownsRow base e size v n l :=
  h.kept hg (by
    rcases h.2 with ⟨rfl, _⟩ | ⟨g', cap, cur, rfl, _, hg', _⟩
    · exact .inl rfl
    · right
      intro he
      have : g' = g := by simpa [Value.ownBlock] using he
      subst this
      exact Blk.other (hg' : Blk w g' e cur) hB hne rfl)
theorem SMapSN.grown (h : SMapSN w bm xs) {g : Nat} {t : TypeId} {cs : Array Value} (hg : w.grownBy w' (some g)) (hne : bm ≠ g) (hB : Blk w g t cs) (ht : 135 ≠ t) : SMapSN w' bm xs := by
  obtain ⟨v, hb, ho⟩ := h.row
  exact ⟨⟨v, hb.grown hg (by simpa using hne), own_grown_typ ho hg hB ht⟩, h.up, h.ok⟩
theorem SMapSN.below (h : SMapSN w bm xs) (hb : Below w.heap.size w w') : SMapSN w' bm xs := by
  obtain ⟨v, hB, ho⟩ := h.row
  exact ⟨⟨v, hB.below hb hB.lt, own_kept ho hb⟩, h.up, h.ok⟩
theorem SMapSN.drewN (h : SMapSN w bm xs) (n : Nat) : SMapSN (w.drewN n) bm xs := h.below (below_drewN (Below.refl _ _) n)
theorem SMapSN.drew (h : SMapSN w bm xs) : SMapSN w.drew bm xs := h.below (Below.refl _ _).drew
theorem flat1SN (xs : List (ByteArray × Nd)) : ∀ u ∈ xs.flatMap eCSN, u.oneCell' = true := fun u hu => by
  rw [List.mem_flatMap] at hu
  obtain ⟨x, _, hx⟩ := hu
  exact eCSN_one x u hx
end
set_option maxRecDepth 100000 in
theorem srtNewSN_any (w : World) :
    Calls Tryz.prog 37 #[ordFSN] w fun e w' => ∃ bm, e = .returned (.pointer (some ⟨bm, 0, none⟩)) ∧ SMapSN w' bm [] ∧ w.heap.size ≤ bm ∧ Below w.heap.size w w' := by
  have hB := Blk.new w 127 #[ordFSN, .slice none 0 0]
  have hb1 := (Below.refl w.heap.size w).alloc (Nat.le_refl _) (.cells #[ordFSN, .slice none 0 0] 127)
  have HF := Lib.hid (⟨⟨_, hB, World.ownsRow_nil _ 0 135 5⟩, List.Pairwise.nil, fun e he => by cases he⟩ : SMapSN _ w.heap.size [])
  have HB := Lib.hid hb1; clear hb1 hB
  have hnf : ∀ W, (binOp .eql 90 ordFSN Value.nilFunc).run Tryz.prog W = .ok (.bool false) W := fun W => by kernel_rfl
  go_enter Tryz.func37, Tryz.ntmps37
  go_wp2_with fail
  go_ret
  exact ⟨_, rfl, HF.out, Nat.le_refl _, HB.out⟩
/-- the answer of find -/
def FindPostSN (k : ByteArray) (xs : List (ByteArray × Nd)) (w : World) (e : Ending) (w' : World) : Prop :=
  e = .returned (.tuple #[.int .i64 (lbN ordS k xs), .bool (inN ordS k xs)]) ∧ Below w.heap.size w w'
set_option maxRecDepth 100000 in
set_option maxHeartbeats 2000000 in
theorem srtFindSN_any (w : World) (bm : Nat) (xs : List (ByteArray × Nd)) (k : ByteArray) (h : SMapSN w bm xs) (hn : xs.length ≤ 1000000) (hk : okS k) :
    Calls Tryz.prog 79 #[.pointer (some ⟨bm, 0, none⟩), Value.string k] w (FindPostSN k xs w) := by
  obtain ⟨v, hb, ho⟩ := h.row
  have hord := h.ord
  have hB := Blk.new w 88 #[.pointer (some ⟨bm, 0, none⟩)]
  have hb1 := (Below.refl w.heap.size w).alloc (Nat.le_refl _) (.cells #[.pointer (some ⟨bm, 0, none⟩)] 88)
  have hg1 : (w.alloc (.cells #[.pointer (some ⟨bm, 0, none⟩)] 88)).cell? ⟨w.heap.size, 0, none⟩ = some (.pointer (some ⟨bm, 0, none⟩)) := hB.cell 0
  have hbl := hb.lt
  have hm0 := (hb1.cell (p := ⟨bm, 0, none⟩) hbl).trans hord
  have hm1 : (w.alloc (.cells #[.pointer (some ⟨bm, 0, none⟩)] 88)).cell? ⟨bm, 1, none⟩ = some v := (hb1.cell (p := ⟨bm, 1, none⟩) hbl).trans (hb.cell 1)
  have hsz := hB.lt
  obtain ⟨A, c, rfl, hc1, hc2, hsl⟩ := SlV.of_own (own_kept ho hb1) eCSN_len (by decide)
  have HS := Lib.hid (slSearchSN_any eCSN eCSN_len (fun e => ordS e.1 k) (w.alloc (.cells #[.pointer (some ⟨bm, 0, none⟩)] 88)) A xs.length c w.heap.size xs (Value.string k) rfl hn hsl
    (fun a b ha hb' hab hlt => by
      rcases Nat.lt_or_ge a b with h1 | h1
      · exact ordS_ord.trans _ _ _ (List.pairwise_iff_getElem.1 h.up a b ha hb' h1) hlt
      · obtain rfl : a = b := by omega
        exact hlt)
    (fun W x hx hbW => find1SN_any W w.heap.size bm x k (h.ok x hx) hk ((hbW.cell (p := ⟨w.heap.size, 0, none⟩) hsz).trans hg1) ((hbW.cell (p := ⟨bm, 0, none⟩) (Nat.lt_of_lt_of_le hbl hb1.size)).trans hm0)))
  have hv1 : w.cell? ⟨bm, 1, none⟩ = some (.slice A xs.length c) := hb.cell 1
  have HF := Lib.hid (fun e w' (hp : SrchPostSN (fun e : ByteArray × Nd => ordS e.1 k) xs (w.alloc (.cells #[.pointer (some ⟨bm, 0, none⟩)] 88)) e w') => (by
    obtain ⟨i, hi, h1, h2, rfl, hbw⟩ := hp
    have hl := lbN_eq ordS_ord k xs i hi h1 h2
    subst hl
    refine ⟨?_, hb1.trans (hbw.mono hb1.size)⟩
    rw [inN_eq ordS_ord] : FindPostSN k xs w e w'))
  clear hb1 hB hb ho hord h hsl hm0 hm1 hg1 hsz
  generalize xs.length = n at *
  go_enter Tryz.func79, Tryz.ntmps79
  go_wp2_with fail
  refine HS.out.mono ?_
  rintro e w2 hp
  obtain ⟨rfl, hb2⟩ := HF.out _ _ hp
  clear hp HF HS
  go_wp2_with fail
  go_ret2
  exact ⟨rfl, hb2⟩
set_option maxRecDepth 100000 in
theorem srtLenSN_any (w : World) (bm : Nat) (xs : List (ByteArray × Nd)) (h : SMapSN w bm xs) :
    Calls Tryz.prog 41 #[.pointer (some ⟨bm, 0, none⟩)] w fun e w' => e = .returned (.int .i64 xs.length) ∧ w = w' := by
  obtain ⟨v, hb, ho⟩ := h.row
  obtain ⟨A, c, rfl, hc1, hc2, hsl⟩ := SlV.of_own ho eCSN_len (by decide)
  have hv1 : w.cell? ⟨bm, 1, none⟩ = some (.slice A xs.length c) := hb.cell 1
  clear hsl hb ho h
  generalize xs.length = n at *
  go_enter Tryz.func41, Tryz.ntmps41
  go_wp2_with fail
  go_ret
  exact ⟨rfl, rfl⟩
end Go.Proofs.YtjcbjocgachpjaaGreatDoor
