/- Several texts, joined for the limit of sixty files; each one opens with its own comment. -/
import Derived.Test.YtmpgmgjokliceaaGreatDoorJoin39
import Derived.Test.YtmpgmgjokliceaaGreatDoorJoin22
import Derived.Test.YtmpgmgjokliceaaGreatDoorJoin15
import Derived.Test.YtmpgmgjokliceaaGreatDoorJoin34
import Derived.Test.YtmpgmgjokliceaaGreatDoorJoin19
import Derived.Test.YtmpgmgjokliceaaGreatDoorJoin31
import Derived.Test.YtmpgmgjokliceaaGreatDoorJoin16
/- dirfs: Rename. -/
set_option linter.unusedVariables false
set_option linter.unusedSimpArgs false
namespace Sw
open Go
open Go.Proofs.YtmpgmgjokliceaaGreatDoor (awayT undT eCSN)
theorem ups_data {fr q : ByteArray} (h : fr ∈ upsS q) : q.data.toList = fr.data.toList ++ 47 :: jnL (datL ((spS q).drop (spS fr).length)) := by
  obtain ⟨hlt, htk⟩ := ups_take h
  have hne : (spS q).drop (spS fr).length ≠ [] := fun e => by have := congrArg List.length e; simp at this; omega
  have h1 : jnL (datL (spS q)) = q.data.toList := by rw [datL_spS, jnL_spL]
  have h2 : jnL (datL (spS fr)) = fr.data.toList := by rw [datL_spS, jnL_spL]
  rw [← h1, ← h2]
  conv => lhs; rw [← List.take_append_drop (spS fr).length (spS q)]
  rw [datL_app, ← htk, jnL_append _ _ (datL_ne (spS_ne fr)) (datL_ne hne)]
theorem at_size {fr q : ByteArray} (h : q = fr ∨ fr ∈ upsS q) : fr.size ≤ q.size := by
  rcases h with rfl | h
  · exact Nat.le_refl _
  · have := congrArg List.length (ups_data h)
    simp at this
    omega
/-- a row of entries, the first of them renamed -/
def mvRow (fr tt : ByteArray) (U : List NE) (i : Nat) : List NE := (U.take i).map (mvE fr tt) ++ U.drop i
theorem mvRow_zero (fr tt : ByteArray) (U : List NE) : mvRow fr tt U 0 = U := by simp [mvRow]
theorem mvRow_all (fr tt : ByteArray) (U : List NE) : mvRow fr tt U U.length = U.map (mvE fr tt) := by simp [mvRow]
theorem mvRow_len (fr tt : ByteArray) (U : List NE) (i : Nat) (h : i ≤ U.length) : (mvRow fr tt U i).length = U.length := by simp [mvRow]; omega
theorem mvRow_at (fr tt : ByteArray) (U : List NE) (i : Nat) (h : i < U.length) : (mvRow fr tt U i)[i]'(by rw [mvRow_len _ _ _ _ (by omega)]; exact h) = U[i] := by
  unfold mvRow
  rw [List.getElem_append_right (by simp; omega)]
  simp [Nat.min_eq_left (Nat.le_of_lt h)]
theorem mvRow_set (fr tt : ByteArray) (U : List NE) (i : Nat) (h : i < U.length) : (mvRow fr tt U i).set i (mvE fr tt U[i]) = mvRow fr tt U (i + 1) := by
  unfold mvRow
  have h0 : i - ((U.take i).map (mvE fr tt)).length = 0 := by simp; omega
  rw [List.set_append_right _ _ (by simp; omega), h0, List.drop_eq_getElem_cons h, List.set_cons_zero, List.take_succ_eq_append_getElem h, List.map_append, List.append_assoc]
  rfl
theorem flat_path : ∀ (L : List NE) (i : Nat) (h : i < L.length) (s : ByteArray), (L.flatMap eCSN).set (i * 5) (.string s) = (L.set i (s, L[i].2)).flatMap eCSN
  | [], i, h, s => absurd h (by simp)
  | e :: L, 0, h, s => by simp [eCSN]
  | e :: L, i + 1, h, s => by
    have hl : (eCSN e).length = 5 := rfl
    rw [List.flatMap_cons, List.set_append_right _ _ (by rw [hl]; omega), List.set_cons_succ, List.flatMap_cons]
    congr 1
    rw [hl, show (i + 1) * 5 - 5 = i * 5 by omega]
    exact flat_path L i (by simpa using h) s
end Sw
namespace Go.Proofs.YtmpgmgjokliceaaGreatDoor
open Go Go.RowKit
open Sw
/-- three texts that lie in cells -/
def RnC (gf gt N : Nat) (a b c : ByteArray) (W : World) : Prop := W.cell? ⟨gf, 0, none⟩ = some (.string a) ∧ W.cell? ⟨gt, 0, none⟩ = some (.string b) ∧ W.cell? ⟨N, 0, none⟩ = some (.string c)
theorem RnC.put {gf gt N g o : Nat} {a b c : ByteArray} {W : World} {v : Value} (h : RnC gf gt N a b c W) (h1 : gf ≠ g) (h2 : gt ≠ g) (h3 : N ≠ g) : RnC gf gt N a b c (W.setCell ⟨g, o, none⟩ v) :=
  ⟨(World.cell?_setCell_other W _ _ _ (fun e => h1 (congrArg Addr.block e).symm)).trans h.1, (World.cell?_setCell_other W _ _ _ (fun e => h2 (congrArg Addr.block e).symm)).trans h.2.1, (World.cell?_setCell_other W _ _ _ (fun e => h3 (congrArg Addr.block e).symm)).trans h.2.2⟩
theorem OwnIt.drew' {w : World} {base : Nat} {v : Value} {L : List NE} (h : OwnIt w base v L) : OwnIt w.drew base v L := World.ownsRow.drew h
theorem OwnIt.path {w : World} {base g n cap : Nat} {L : List NE} (h : OwnIt w base (.slice (some ⟨g, 0, none⟩) n cap) L) (i : Nat) (hi : i < L.length) (s : ByteArray) (hL : L.length = n) : OwnIt (w.setCell ⟨g, i * 5, none⟩ (.string s)) base (.slice (some ⟨g, 0, none⟩) n cap) (L.set i (s, L[i].2)) := by
  unfold OwnIt at *
  rw [List.length_set, ← flat_path L i hi s]
  rw [hL] at h ⊢
  exact (h.stored (i * 5) (.string s)).1
theorem putFold_len (L : List NE) : ∀ xs : List NE, (L.foldl putO xs).length ≤ xs.length + L.length := by
  induction L with
  | nil => intro xs; exact Nat.le_refl _
  | cons e L ih => intro xs; have := ih (putO xs e); have h2 := putT_len xs e.1 e.2; simp only [List.foldl_cons, List.length_cons]; have h3 : (putO xs e).length = (putT xs e.1 e.2).length := rfl; omega
end Go.Proofs.YtmpgmgjokliceaaGreatDoor
/- dirfs: New, Get, Tree, Bytes, Fuse, Off, Restart, Ops. -/
set_option linter.unusedVariables false
set_option linter.unusedSimpArgs false
namespace Go.Proofs.YtmpgmgjokliceaaGreatDoor
open Go Go.RowKit
open Sw
set_option maxRecDepth 100000 in
theorem dirNew_any (w : World) (room : Int) :
    Calls Tryz.prog 52 #[.int .i64 room] w fun e w' => ∃ bd bt bm, e = .returned (.pointer (some ⟨bd, 0, none⟩)) ∧ DirAt w' bd bt bm ⟨room, -1, 0, false, []⟩ ∧ w.heap.size ≤ bd ∧ Below w.heap.size w w' := by
  have HN := Lib.hid (treeNew_any w)
  go_enter Tryz.func52, Tryz.ntmps52
  go_wp2_with fail
  refine HN.out.mono ?_
  rintro e w1 ⟨bt, bm, rfl, ht, hbt, hbm, hb1⟩
  have hba := (Below.refl w1.heap.size w1).alloc (Nat.le_refl _) (.cells #[.pointer (some ⟨bt, 0, none⟩), .int .i64 room, .int .i64 (-1), .bool false, .int .i64 0] 96)
  have HF := Lib.hid (And.intro (Blk.new w1 96 #[.pointer (some ⟨bt, 0, none⟩), .int .i64 room, .int .i64 (-1), .bool false, .int .i64 0]) (And.intro (ht.below hba) (hb1.trans (hba.mono hb1.size))))
  have hsz := hb1.size
  clear ht hb1 hba HN
  go_wp2_with fail
  go_ret
  exact ⟨_, bt, bm, rfl, ⟨HF.out.1, HF.out.2.1⟩, hsz, HF.out.2.2⟩
set_option maxRecDepth 100000 in
theorem dirTree_any (w : World) (bd bt bm : Nat) (s : DS) (h : DirAt w bd bt bm s) :
    Calls Tryz.prog 21 #[.pointer (some ⟨bd, 0, none⟩)] w fun e w' => ∃ bt' bm', e = .returned (.pointer (some ⟨bt', 0, none⟩)) ∧ TreeAt w' bt' bm' s.xs ∧ w.heap.size ≤ bm' ∧ Below w.heap.size w w' := by
  have HC := Lib.hid (treeClone_any w bt bm s.xs h.tree)
  have c0 := h.box.cell 0
  simp at c0
  clear h
  go_enter Tryz.func21, Tryz.ntmps21
  go_wp2_with fail
  refine HC.out.mono ?_
  rintro e w1 ⟨bt', bm', rfl, ht, hbt, hbm, hb1⟩
  have HF := Lib.hid (And.intro ht hb1); clear ht hb1 HC
  go_wp2_with fail
  go_ret
  exact ⟨bt', bm', rfl, HF.out.1, hbm, HF.out.2⟩
set_option maxRecDepth 100000 in
theorem dirTreeNil_any (w : World) :
    Calls Tryz.prog 21 #[.pointer none] w fun e w' => ∃ bt' bm', e = .returned (.pointer (some ⟨bt', 0, none⟩)) ∧ TreeAt w' bt' bm' [] ∧ Below w.heap.size w w' := by
  have HC := Lib.hid (treeNew_any w)
  go_enter Tryz.func21, Tryz.ntmps21
  go_wp2_with fail
  refine HC.out.mono ?_
  rintro e w1 ⟨bt', bm', rfl, ht, hbt, hbm, hb1⟩
  have HF := Lib.hid (And.intro ht hb1); clear ht hb1 HC
  go_wp2_with fail
  go_ret
  exact ⟨bt', bm', rfl, HF.out.1, HF.out.2⟩
set_option maxRecDepth 100000 in
set_option maxHeartbeats 1000000 in
theorem dirFuse_any (w : World) (bd bt bm : Nat) (s : DS) (n : Int) (h : DirAt w bd bt bm s) :
    Calls Tryz.prog 17 #[.pointer (some ⟨bd, 0, none⟩), .int .i64 n] w fun e w' => e = .returned (.tuple #[]) ∧ DirAt w' bd bt bm { s with fuse := max n (-1) } ∧ w.grownBy w' (some bd) := by
  obtain ⟨room, fuse, ops, off, xs⟩ := s
  have hb := h.box
  have c2 := hb.cell 2
  have f2 := hb.frozen 2
  simp at c2
  have HH := Lib.hid (And.intro h hb); clear h hb
  obtain ⟨F, hF⟩ : ∃ F, max n (-1) = F := ⟨_, rfl⟩
  go_enter Tryz.func17, Tryz.ntmps17
  go_wp2_with fail
  go_end0
  exact ⟨rfl, ⟨by have := HH.out.2.put 2 (.int .i64 F); simpa using this, HH.out.1.tree.far HH.out.2 (by decide) (by decide) (by decide) (grown_put (grown_refl _ _) 2 _)⟩, grown_put (grown_refl _ _) 2 _⟩
set_option maxRecDepth 100000 in
theorem dirFuseNil_any (w : World) (n : Int) :
    Calls Tryz.prog 17 #[.pointer none, .int .i64 n] w fun e w' => e = .returned (.tuple #[]) ∧ w = w' := by
  go_enter Tryz.func17, Tryz.ntmps17
  go_wp2_with fail
  go_end0
  exact ⟨rfl, rfl⟩
end Go.Proofs.YtmpgmgjokliceaaGreatDoor
/- dirfs: Get; what is asked of nil; the law's example. -/
set_option linter.unusedVariables false
set_option linter.unusedSimpArgs false
namespace Go.Proofs.YtmpgmgjokliceaaGreatDoor
open Go Go.RowKit
open Sw
set_option maxRecDepth 100000 in
theorem stepNil_any (w : World) (f : Nat) (caps : Array Value) : Calls Tryz.prog 104 #[.pointer none, .func (.func f) #[] caps] w fun e w' => e = .returned (.int .i64 1) ∧ w = w' := by
  go_enter Tryz.func104, Tryz.ntmps104
  go_wp2_with fail
  go_ret
  exact ⟨rfl, rfl⟩
set_option maxRecDepth 100000 in
theorem dirPutNil_any (w : World) (p : ByteArray) (n : Nd) : Calls Tryz.prog 53 #[.pointer none, .string p, .agg n.c] w fun e w' => e = .returned (.int .i64 1) ∧ Below w.heap.size w w' := by
  have HS := Lib.hid (fun W f caps => stepNil_any W f caps)
  have HB := Lib.hid ((((Below.refl w.heap.size w).alloc (Nat.le_refl _) (.cells #[.pointer none] 49)).alloc (by simp) (.cells #[.string p] 9)).alloc (by simp; omega) (.cells n.c 37))
  obtain ⟨kd, md, tm, dt⟩ := n
  simp only [Nd.c] at HB ⊢
  go_enter Tryz.func53, Tryz.ntmps53
  go_wp2_with fail
  refine (HS.out _ _ _).mono ?_
  rintro e _ ⟨rfl, rfl⟩
  go_wp2_with fail
  go_ret
  exact ⟨rfl, HB.out⟩
set_option maxRecDepth 100000 in
theorem dirRemoveNil_any (w : World) (p : ByteArray) : Calls Tryz.prog 55 #[.pointer none, .string p] w fun e w' => e = .returned (.int .i64 1) ∧ Below w.heap.size w w' := by
  have HS := Lib.hid (fun W f caps => stepNil_any W f caps)
  have HB := Lib.hid ((Below.refl w.heap.size w).alloc (Nat.le_refl _) (.cells #[.string p] 9))
  go_enter Tryz.func55, Tryz.ntmps55
  go_wp2_with fail
  refine (HS.out _ _ _).mono ?_
  rintro e _ ⟨rfl, rfl⟩
  go_wp2_with fail
  go_ret
  exact ⟨rfl, HB.out⟩
set_option maxRecDepth 100000 in
theorem dirGraftNil_any (w : World) (p : ByteArray) : Calls Tryz.prog 54 #[.pointer none, .string p, .slice none 0 0] w fun e w' => e = .returned (.int .i64 1) ∧ Below w.heap.size w w' := by
  have HS := Lib.hid (fun W f caps => stepNil_any W f caps)
  have HB := Lib.hid ((((Below.refl w.heap.size w).alloc (Nat.le_refl _) (.cells #[.pointer none] 49)).alloc (by simp) (.cells #[.string p] 9)).alloc (by simp; omega) (.cells #[.slice none 0 0] 22))
  go_enter Tryz.func54, Tryz.ntmps54
  go_wp2_with fail
  refine (HS.out _ _ _).mono ?_
  rintro e _ ⟨rfl, rfl⟩
  go_wp2_with fail
  go_ret
  exact ⟨rfl, HB.out⟩
end Go.Proofs.YtmpgmgjokliceaaGreatDoor
/- The document's example of trees. -/
set_option linter.unusedVariables false
set_option linter.unusedSimpArgs false
namespace Sw
def dirL : Nd := ⟨2, 0, 0, ⟨#[]⟩⟩
def aS : ByteArray := ⟨#[97]⟩
def abS : ByteArray := ⟨#[97, 47, 98]⟩
theorem lives_may : mayT [] abS dirL = 7 ∧ mayT [] aS dirL = 0 ∧ mayT [(aS, dirL)] abS dirL = 0 := ⟨by kernel_rfl, by kernel_rfl, by kernel_rfl⟩
theorem lives_put : putT [] abS dirL = [] ∧ putT [] aS dirL = [(aS, dirL)] ∧ putT [(aS, dirL)] abS dirL = [(aS, dirL), (abS, dirL)] := ⟨by kernel_rfl, by kernel_rfl, by kernel_rfl⟩
theorem lives_par : (parentS abS).size = 1 ∧ (parentS aS).size = 0 := ⟨by kernel_rfl, by kernel_rfl⟩
end Sw
namespace Go.Proofs.YtmpgmgjokliceaaGreatDoor
open Go Go.RowKit Go.Shelf
open Sw
theorem dirL_in : NdIn dirL := ⟨by decide, by decide, by decide⟩
end Go.Proofs.YtmpgmgjokliceaaGreatDoor
/- The example of layer 18's laws. -/
set_option linter.unusedVariables false
set_option linter.unusedSimpArgs false
namespace Sw
theorem lives18_put : putW (-1) [] aS dirL = 0 ∧ putT [] aS dirL = [(aS, dirL)] ∧ renW [(aS, dirL)] aS abS = 1 := ⟨by kernel_rfl, lives_put.2.1, by kernel_rfl⟩
theorem lives18_ti : TI [(aS, dirL)] := by
  have := TI.nil.putT aS dirL
  rw [lives_put.2.1] at this
  exact this
end Sw
namespace Go.Proofs.YtmpgmgjokliceaaGreatDoor
open Go Go.RowKit
open Sw
theorem parent_small (p : ByteArray) : (parentS p).size ≤ 200 := by
  rcases parent_last p with ⟨_, h⟩ | ⟨h, he, _⟩
  · rw [h]; decide
  · rw [← he, List.getLast_eq_getElem]; exact (ups_step p _ (by have := List.length_pos_iff.2 h; omega : (upsS p).length - 1 < (upsS p).length)).2.1
end Go.Proofs.YtmpgmgjokliceaaGreatDoor
/- TreePlays: the tree and the reference's row behind some steps. -/
set_option linter.unusedVariables false
set_option linter.unusedSimpArgs false
namespace Go.Proofs.YtmpgmgjokliceaaGreatDoor
open Go Go.RowKit
open Sw
theorem parent_size (p : ByteArray) : (parentS p).size ≤ 200 := by
  rcases parent_last p with ⟨_, h⟩ | ⟨h, he, _⟩
  · rw [h]; decide
  · rw [← he, List.getLast_eq_getElem]; exact (ups_step p _ _).2.1
/-- behind some steps: the tree, the reference's row, and the box of the last argument; the tree holds ys, the row xs -/
structure PlM (w0 : World) (T bt bm : Nat) (m : Value) (xv : Value) (xs ys : List NE) (W : World) : Prop where
  tree : TreeAt W bt bm ys
  row : OwnIt W w0.heap.size xv xs
  box : Blk W T 48 #[m]
  hbm : w0.heap.size ≤ bm
  old : Below w0.heap.size w0 W
/-- what a row of items of a tree keeps -/
structure Fit (xs : List NE) (k : Nat) : Prop where
  len : xs.length ≤ k
  up : Up ordS xs
  paths : Paths xs
  ok : ∀ e ∈ xs, e.1.size ≤ 90000
  small : ∀ e ∈ xs, e.2.data.size ≤ 500
section
variable {w0 W W' : World} {T bt bm : Nat} {m xv : Value} {xs ys zs : List NE}
theorem PlM.below (h : PlM w0 T bt bm m xv xs ys W) (hb : Below W.heap.size W W') : PlM w0 T bt bm m xv xs ys W' :=
  ⟨h.tree.below hb, h.row.below hb, h.box.below hb h.box.lt, h.hbm, h.old.trans (hb.mono h.old.size)⟩
theorem PlM.turn (h : PlM w0 T bt bm m xv xs ys W) (ht : TreeAt W' bt bm zs) (hg : W.grownBy W' (some bm)) : PlM w0 T bt bm m xv xs zs W' := by
  obtain ⟨v, hb, _⟩ := h.tree.map.row
  exact ⟨ht, h.row.kept hg (.inr (own_ne_blk h.row hb (by decide))), h.box.grown hg (fun e => Blk.other h.box hb (by decide) (Option.some.inj e)), h.hbm, below_grown h.old hg h.hbm h.old.size⟩
theorem Fit.nil (k : Nat) : Fit [] k := ⟨Nat.zero_le _, List.Pairwise.nil, fun _ h => absurd h (by simp), fun _ h => absurd h (by simp), fun _ h => absurd h (by simp)⟩
end
theorem Fit.put {xs : List NE} {k : Nat} (h : Fit xs k) (p : ByteArray) (n : Nd) (hp : p.size ≤ 90000) (hn : n.data.size ≤ 500) : Fit (putT xs p n) (k + 1) := by
  have hm : ∀ e ∈ putT xs p n, e = (p, n) ∨ e ∈ xs := fun e he => by
    unfold putT at he
    split at he
    · exact put_mem p n xs e he
    · exact .inr he
  refine ⟨Nat.le_trans (putT_len xs p n) (by have := h.len; omega), ?_, h.paths.ofPut p n, fun e he => ?_, fun e he => ?_⟩
  · unfold putT
    split
    · exact put_up ordS_ord p n xs h.up
    · exact h.up
  · rcases hm e he with rfl | he
    · exact hp
    · exact h.ok e he
  · rcases hm e he with rfl | he
    · exact hn
    · exact h.small e he
theorem Fit.drop {xs : List NE} {k : Nat} (h : Fit xs k) (p : ByteArray) : Fit (dropT xs p) (k + 1) := by
  have hm : ∀ e ∈ dropT xs p, e ∈ xs := fun e he => by
    unfold dropT at he
    split at he
    · exact drop_mem p xs e he
    · exact he
  refine ⟨Nat.le_trans (dropT_len xs p) (by have := h.len; omega), ?_, h.paths.ofDrop p, fun e he => h.ok e (hm e he), fun e he => h.small e (hm e he)⟩
  unfold dropT
  split
  · exact drop_up ordS_ord p xs h.up
  · exact h.up
theorem plPut_any {w0 : World} {T bt bm : Nat} {m xv : Value} {xs : List NE} {k : Nat} (W : World) (p : ByteArray) (n : Nd) (h : PlM w0 T bt bm m xv xs xs W) (hf : Fit xs k) (hk : k ≤ 30) (hp : p.size ≤ 90000) (hin : NdIn n) :
    Calls Tryz.prog 33 #[.pointer (some ⟨bt, 0, none⟩), .string p, .agg n.c] W fun e w' => e = .returned (.int .i64 (mayT xs p n)) ∧ PlM w0 T bt bm m xv xs (putT xs p n) w' ∧ W.grownBy w' (some bm) :=
  (treePut_any W bt bm xs p n h.tree (by have := hf.len; omega) hp (by have := parent_size p; omega) hin).mono fun e w' ⟨h1, h2, h3⟩ => ⟨h1, h.turn h2 h3, h3⟩
theorem plDrop_any {w0 : World} {T bt bm : Nat} {m xv : Value} {xs : List NE} {k : Nat} (W : World) (p : ByteArray) (h : PlM w0 T bt bm m xv xs xs W) (hf : Fit xs k) (hk : k ≤ 30) (hp : p.size ≤ 90000) :
    Calls Tryz.prog 110 #[.pointer (some ⟨bt, 0, none⟩), .string p] W fun e w' => e = .returned (.int .i64 (whyDrop xs p)) ∧ PlM w0 T bt bm m xv xs (dropT xs p) w' ∧ W.grownBy w' (some bm) :=
  (treeDrop_any W bt bm xs p h.tree (by have := hf.len; omega) hp).mono fun e w' ⟨h1, h2, h3⟩ => ⟨h1, h.turn h2 h3, h3⟩
theorem plRefPut_any {w0 : World} {T bt bm : Nat} {m xv : Value} {xs : List NE} {k : Nat} (W : World) (p : ByteArray) (n : Nd) (h : PlM w0 T bt bm m xv xs (putT xs p n) W) (hf : Fit xs k) (hk : k ≤ 30) (hp : p.size ≤ 90000) (hin : NdIn n) :
    Calls Tryz.prog 112 #[xv, .string p, .agg n.c] W fun e w' => ∃ A j c, e = .returned (.tuple #[.slice A j c, .int .i64 (mayT xs p n)]) ∧ j = (putT xs p n).length ∧ PlM w0 T bt bm m (.slice A j c) (putT xs p n) (putT xs p n) w' ∧ Below W.heap.size W w' :=
  (ref16Put_any W w0.heap.size xv xs p n h.row h.old.size hf.up hf.paths (by have := hf.len; omega) hf.ok hp hin.t0 hin.t1 hin.size).mono fun e w' ⟨r, h1, h2, h3⟩ => by
    obtain ⟨A, c, rfl, _, _, _⟩ := SlV_of_any h2
    exact ⟨A, _, c, h1, rfl, ⟨h.tree.below h3, h2, h.box.below h3 h.box.lt, h.hbm, h.old.trans (h3.mono h.old.size)⟩, h3⟩
end Go.Proofs.YtmpgmgjokliceaaGreatDoor
/- TreePlays: laws on structs, and rows; what stands at the end. -/
set_option linter.unusedVariables false
set_option linter.unusedSimpArgs false
namespace Go.Proofs.YtmpgmgjokliceaaGreatDoor
open Go Go.RowKit
open Sw
theorem neq_node (d : ByteArray) (k m t : Int) (W : World) : (binOp .neq 37 (.agg #[.int .i64 k, .int .i64 m, .int .u32 t, .string d]) (.agg #[.int .i64 k, .int .i64 m, .int .u32 t, .string d])).run Tryz.prog W = .ok (.bool false) W := by
  simp [go_sem, Tryz.underlying37, Tryz.underlying3, Tryz.underlying35, Tryz.underlying9]
theorem bytesT_le : ∀ xs : List NE, (∀ e ∈ xs, e.2.data.size ≤ 500) → bytesT xs ≤ 500 * xs.length
  | [], _ => Nat.le_refl _
  | e :: xs, h => by
    have h1 := bytesT_le xs (fun a ha => h a (List.mem_cons_of_mem _ ha))
    have h2 := h e (List.mem_cons_self ..)
    have h3 : bytesT (e :: xs) = e.2.data.size + bytesT xs := by unfold bytesT; rw [List.map_cons, List.sum_cons]
    rw [h3, List.length_cons]
    omega
theorem bytesT_step (xs : List NE) (j : Nat) (h : j < xs.length) : bytesT (xs.take (j + 1)) = bytesT (xs.take j) + xs[j].2.data.size := by
  rw [List.take_succ_eq_append_getElem h, bytesT_app]
  unfold bytesT
  simp
theorem undT_step (p : ByteArray) (xs : List NE) (j : Nat) (h : j < xs.length) : undT p (xs.take (j + 1)) = undT p (xs.take j) ++ if awayT p xs[j] = true then [] else [xs[j]] := by
  unfold undT
  rw [List.take_succ_eq_append_getElem h, List.filter_append]
  congr 1
  cases h2 : awayT p xs[j] <;> simp [h2]
theorem undT_len (p : ByteArray) (xs : List NE) : (undT p xs).length ≤ xs.length := List.length_filter_le _ _
theorem slv_cutI {w : World} {size : Nat} {α : Type} {E : α → List Value} {A : Option Addr} {n c : Nat} {l : List α} (h : SlV w size E (.slice A n c) l) (j : Nat) (hj : j ≤ n) : SlV w size E (.slice A j c) (l.take j) := by
  obtain ⟨A', c', hv, h1, h2, h3⟩ := h
  obtain ⟨rfl, rfl, rfl⟩ : A = A' ∧ n = l.length ∧ c = c' := by injection hv with e1 e2 e3; exact ⟨e1, e2, e3⟩
  exact ⟨A, c, by rw [List.length_take, Nat.min_eq_left hj], by rw [List.length_take]; omega, h2, h3.take j⟩
/-- behind some words of the tree: the row in the box holds them -/
def GtI (Tg M : Nat) (pre : List NE) (W : World) : Prop := (pre.length ≤ M ∧ Tg + 1 ≤ W.heap.size) ∧ ∃ o, Blk W Tg 22 #[o] ∧ OwnIt W Tg o pre
def GtX (Tg M : Nat) (c : Code) (pre : List NE) (W : World) : Prop := ∃ (pre' : List NE) (x : NE), pre = pre' ++ [x] ∧ pre'.length = M ∧ c = .exit 4 ∧ Tg + 1 ≤ W.heap.size ∧ ∃ o, Blk W Tg 22 #[o] ∧ OwnIt W Tg o pre'
theorem GtI.own (Tg M : Nat) : Own (GtI Tg M) := fun _ A B row hs hg hr => ⟨⟨hs.1.1, Nat.le_trans hs.1.2 hg.size⟩, by obtain ⟨o, h1, h2⟩ := hs.2; exact ⟨o, blk_ownF h1 hg hr, own_ownF h2 hg hr⟩⟩
theorem GtX.own (Tg M : Nat) (c : Code) : Own (GtX Tg M c) := fun _ A B row hs hg hr => by
  obtain ⟨p', x, e1, e2, e3, e4, o, h1, h2⟩ := hs
  exact ⟨p', x, e1, e2, e3, Nat.le_trans e4 hg.size, o, blk_ownF h1 hg hr, own_ownF h2 hg hr⟩
theorem GtI.below {Tg M : Nat} {pre : List NE} {A B : World} (hs : GtI Tg M pre A) (hb : Below A.heap.size A B) : GtI Tg M pre B := ⟨⟨hs.1.1, Nat.le_trans hs.1.2 hb.size⟩, by obtain ⟨o, h1, h2⟩ := hs.2; exact ⟨o, h1.below hb h1.lt, h2.below hb⟩⟩
/-- what stands behind the range -/
structure PlZ (w : World) (bt bm Tg D : Nat) (mo : Value) (xv uv gv : Value) (xs us gs : List NE) (W : World) : Prop where
  pl : PlM w w.heap.size bt bm mo xv xs xs W
  und : OwnIt W w.heap.size uv us
  box : Blk W Tg 22 #[gv]
  got : OwnIt W w.heap.size gv gs
  dfr : W.heap[D]? = some (Obj.deferred (some []))
theorem PlZ.below {w : World} {bt bm Tg D : Nat} {mo xv uv gv : Value} {xs us gs : List NE} {W W' : World} (h : PlZ w bt bm Tg D mo xv uv gv xs us gs W) (hb : Below W.heap.size W W') : PlZ w bt bm Tg D mo xv uv gv xs us gs W' :=
  ⟨h.pl.below hb, h.und.below hb, h.box.below hb h.box.lt, h.got.below hb, by rw [hb.block D (Array.getElem?_eq_some_iff.1 h.dfr).1]; exact h.dfr⟩
end Go.Proofs.YtmpgmgjokliceaaGreatDoor
/- Layer 18's law: its steps, Light, grafts. -/
set_option linter.unusedVariables false
set_option linter.unusedSimpArgs false
namespace Sw
open Go
/-- a step -/
structure St18 where
  kind : Int
  path : ByteArray
  goal : ByteArray
  node : Nd
  n : Int
def st18C (s : St18) : List Value := [.int .u64 s.kind, .string s.path, .string s.goal, .int .i64 s.node.kind, .int .i64 s.node.mode, .int .u32 s.node.time, .string s.node.data, .int .i64 s.n]
theorem st18C_len (s : St18) : (st18C s).length = 8 := rfl
def St18In (s : St18) : Prop := (0 ≤ s.kind ∧ s.kind < 18446744073709551616) ∧ s.path.size ≤ maxLen ∧ s.goal.size ≤ maxLen ∧ Go.Proofs.YtmpgmgjokliceaaGreatDoor.NdIn s.node ∧ (-9223372036854775808 ≤ s.n ∧ s.n ≤ 9223372036854775807)
def Small18 (s : St18) : Prop := s.path.size ≤ 100 ∧ s.goal.size ≤ 100 ∧ s.node.data.size ≤ 500
/-- what a step grafts -/
def graftsL (s : St18) : List NE := if s.n < 0 then [] else if s.n % 2 = 0 then [(s.path, s.node)] else [(s.path, s.node), (s.goal, s.node)]
theorem graftsL_len (s : St18) : (graftsL s).length ≤ 2 := by unfold graftsL; split; simp; split <;> simp
theorem graftsL_mem {s : St18} {e : NE} (h : e ∈ graftsL s) : (e.1 = s.path ∨ e.1 = s.goal) ∧ e.2 = s.node := by
  unfold graftsL at h
  split at h
  · cases h
  · split at h
    · simp at h; subst h; exact ⟨.inl rfl, rfl⟩
    · simp at h
      rcases h with rfl | rfl
      · exact ⟨.inl rfl, rfl⟩
      · exact ⟨.inr rfl, rfl⟩
end Sw
namespace Go.Proofs.YtmpgmgjokliceaaGreatDoor
open Go Go.RowKit
open Sw
theorem slof_blk {w : World} {g size : Nat} {t : TypeId} {cs : Array Value} {α : Type} {E : α → List Value} {l : List α} (h : Blk w g t cs) (hl : cs.toList = l.flatMap E) (hE : ∀ x, (E x).length = size) : SlOf w size E (some ⟨g, 0, none⟩) l :=
  fun hn => ⟨g, 0, rfl, h.lt, fun i hi j hj => by
    rw [h.cell, ← Array.getElem?_toList, hl, Nat.zero_add, flat_get hE l i hi j hj]⟩
def Lt18 (l : List St18) (w : World) (e : Ending) (w' : World) : Prop := ∃ R : Bool, e = .returned (.bool R) ∧ (R = true → l.length ≤ 25 ∧ ∀ s ∈ l, Small18 s) ∧ Below w.heap.size w w'
end Go.Proofs.YtmpgmgjokliceaaGreatDoor
/- What holds of a live directory behind each step: plain. -/
set_option linter.unusedVariables false
set_option linter.unusedSimpArgs false
namespace Sw
open Go
open Go.Proofs.YtmpgmgjokliceaaGreatDoor (awayT undT bytesT bytesT_app bytesT_le NdIn putT_len dropT_len)
theorem bytesT_filter (f : NE → Bool) : ∀ xs : List NE, bytesT (xs.filter f) + bytesT (xs.filter fun x => !f x) = bytesT xs
  | [] => rfl
  | x :: xs => by
    have h := bytesT_filter f xs
    have e : bytesT (x :: xs) = x.2.data.size + bytesT xs := by unfold bytesT; rw [List.map_cons, List.sum_cons]
    have e2 : ∀ l : List NE, bytesT (x :: l) = x.2.data.size + bytesT l := fun l => by unfold bytesT; rw [List.map_cons, List.sum_cons]
    cases hf : f x
    · rw [List.filter_cons_of_neg (by rw [hf]; simp), List.filter_cons_of_pos (by rw [hf]; rfl), e2, e]; omega
    · rw [List.filter_cons_of_pos hf, List.filter_cons_of_neg (by rw [hf]; simp), e2, e]; omega
theorem bytesT_filter_le (f : NE → Bool) (xs : List NE) : bytesT (xs.filter f) ≤ bytesT xs := by have := bytesT_filter f xs; omega
theorem bytesT_put_new {xs : List NE} (hu : Up ordS xs) {p : ByteArray} (h : ∀ e ∈ xs, ¬ e.1 = p) (n : Nd) : bytesT (putN ordS p n xs) = bytesT xs + n.data.size := by
  rw [put_filter ordS_ord p n xs hu, bytesT_app]
  have e2 : ∀ l : List NE, bytesT ((p, n) :: l) = n.data.size + bytesT l := fun l => by unfold bytesT; rw [List.map_cons, List.sum_cons]
  rw [e2]
  have h1 : bytesT (xs.filter (fun e => decide (ordS e.1 p < 0))) + bytesT (xs.filter (fun e => !decide (ordS e.1 p < 0))) = bytesT xs := bytesT_filter (fun e => decide (ordS e.1 p < 0)) xs
  have h2 : xs.filter (fun e => decide (0 < ordS e.1 p)) = xs.filter (fun e => !decide (ordS e.1 p < 0)) := List.filter_congr fun e he => by
    have h3 := ordS_three e.1 p
    have h4 : ¬ ordS e.1 p = 0 := fun h0 => h e he (ordS_zero h0)
    rw [Bool.eq_iff_iff]
    simp
    omega
  rw [h2, ← h1, Nat.add_assoc]
  congr 1
  exact Nat.add_comm _ _
theorem bytesT_fold : ∀ (L base : List NE), Up ordS base → Unlike L → (∀ r ∈ L, ∀ x ∈ base, ¬ x.1 = r.1) → bytesT (L.foldl putE base) = bytesT base + bytesT L
  | [], base, _, _, _ => rfl
  | r :: L, base, hu, hl, hd => by
    obtain ⟨h1, h2⟩ := List.pairwise_cons.1 hl
    have e2 : bytesT (r :: L) = r.2.data.size + bytesT L := by unfold bytesT; rw [List.map_cons, List.sum_cons]
    rw [List.foldl_cons, bytesT_fold L (putN ordS r.1 r.2 base) (put_up ordS_ord _ _ _ hu) h2 (fun r' hr' x hx => by
      rcases (put_iff hu r.1 r.2 x).1 hx with rfl | ⟨hx, _⟩
      · exact h1 r' hr'
      · exact hd r' (List.mem_cons_of_mem _ hr') x hx), bytesT_put_new hu (hd r (List.mem_cons_self ..)), e2]
    omega
theorem Ren.bytes {xs : List NE} {fr tt : ByteArray} (h : Ren xs fr tt) : bytesT (renT xs fr tt) = bytesT xs := by
  unfold renT
  rw [bytesT_fold _ _ (h.ti.up.filter _) h.unlike (fun r hr x hx e => h.apart (List.mem_filter.1 hx).1 hr e.symm)]
  have e1 : bytesT ((undT fr xs).map (mvE fr tt)) = bytesT (undT fr xs) := by unfold bytesT; rw [List.map_map]; rfl
  rw [e1]
  exact bytesT_filter (awayT fr) xs
theorem putT_mem {xs : List NE} {p : ByteArray} {n : Nd} {e : NE} (h : e ∈ putT xs p n) : e = (p, n) ∨ e ∈ xs := by
  unfold putT at h
  split at h
  · exact put_mem p n xs e h
  · exact .inr h
theorem dropT_mem {xs : List NE} {p : ByteArray} {e : NE} (h : e ∈ dropT xs p) : e ∈ xs := by
  unfold dropT at h
  split at h
  · exact drop_mem p xs e h
  · exact h
theorem dropT_bytes {xs : List NE} (hu : Up ordS xs) (p : ByteArray) : bytesT (dropT xs p) ≤ bytesT xs := by
  unfold dropT
  split
  · rw [drop_filter ordS_ord p xs hu]; exact bytesT_filter_le _ _
  · exact Nat.le_refl _
theorem putsT_mem : ∀ (L : List NE) {ys : List NE} {e : NE}, e ∈ (putsT ys L).2 → e ∈ ys ∨ e ∈ L
  | [], ys, e, h => .inl h
  | x :: L, ys, e, h => by
    unfold putsT at h
    split at h
    · rcases putsT_mem L h with h | h
      · rcases putT_mem h with rfl | h
        · exact .inr (List.mem_cons_self ..)
        · exact .inl h
      · exact .inr (List.mem_cons_of_mem _ h)
    · exact .inl h
theorem stepD_off {s : DS} {why : Int} {ys : List NE} (h : (stepD s why ys).2.off = true) : (stepD s why ys).1 = 10 := by
  unfold stepD at h ⊢
  by_cases h0 : s.off = true
  · rw [if_pos h0]
  · rw [if_neg h0] at h ⊢
    by_cases h1 : ¬ why = 0
    · rw [if_pos h1] at h; exact absurd h h0
    · rw [if_neg h1] at h ⊢
      by_cases h2 : s.fuse = 0
      · rw [if_pos h2]
      · rw [if_neg h2] at h; exact absurd h h0
theorem stepD_keep {s : DS} {why : Int} {ys : List NE} (h : ¬ (stepD s why ys).1 = 0) : (stepD s why ys).2.xs = s.xs := by
  unfold stepD at h ⊢
  split
  · rfl
  · split
    · rfl
    · split
      · rfl
      · rename_i h0 h1 h2
        rw [if_neg h0, if_neg h1, if_neg h2] at h
        exact absurd rfl h
theorem stepD_xs (s : DS) (why : Int) (ys : List NE) : (stepD s why ys).2.xs = s.xs ∨ (why = 0 ∧ (stepD s why ys).2.xs = ys) := by
  unfold stepD
  split
  · exact .inl rfl
  · split
    · exact .inl rfl
    · rename_i h1
      split
      · exact .inl rfl
      · exact .inr ⟨by simpa using h1, rfl⟩
theorem stepD_room (s : DS) (why : Int) (ys : List NE) : (stepD s why ys).2.room = s.room := by
  unfold stepD
  split
  · rfl
  · split
    · rfl
    · split <;> rfl
/-- what holds of a row that a step may make -/
structure RowOk (k : Nat) (xs : List NE) : Prop where
  ti : TI xs
  len : xs.length ≤ k
  small : ∀ e ∈ xs, e.2.data.size ≤ 500
  nd : ∀ e ∈ xs, NdIn e.2
theorem RowOk.size {k : Nat} {xs : List NE} (h : RowOk k xs) : ∀ e ∈ xs, e.1.size ≤ 200 := fun e he => by
  have hl := (rightL_len (h.ti.paths e he)).1
  have hz : e.1.data.toList.length = e.1.size := by simp
  omega
theorem RowOk.bytes {k : Nat} {xs : List NE} (h : RowOk k xs) : bytesT xs ≤ 500 * k := Nat.le_trans (bytesT_le xs h.small) (Nat.mul_le_mul_left 500 h.len)
theorem RowOk.more {k m : Nat} {xs : List NE} (h : RowOk k xs) (hm : k ≤ m) : RowOk m xs := ⟨h.ti, Nat.le_trans h.len hm, h.small, h.nd⟩
theorem RowOk.nil (k : Nat) : RowOk k [] := ⟨TI.nil, Nat.zero_le _, fun _ h => absurd h (by simp), fun _ h => absurd h (by simp)⟩
theorem RowOk.put {k : Nat} {xs : List NE} (h : RowOk k xs) (p : ByteArray) {n : Nd} (hn : NdIn n) (hs : n.data.size ≤ 500) : RowOk (k + 1) (putT xs p n) :=
  ⟨h.ti.putT p n, Nat.le_trans (putT_len xs p n) (by have := h.len; omega), fun e he => by rcases putT_mem he with rfl | he; exact hs; exact h.small e he, fun e he => by rcases putT_mem he with rfl | he; exact hn; exact h.nd e he⟩
theorem RowOk.drop {k : Nat} {xs : List NE} (h : RowOk k xs) (p : ByteArray) : RowOk k (dropT xs p) :=
  ⟨h.ti.dropT p, Nat.le_trans (dropT_len xs p) h.len, fun e he => h.small e (dropT_mem he), fun e he => h.nd e (dropT_mem he)⟩
theorem RowOk.away {k : Nat} {xs : List NE} (h : RowOk k xs) (p : ByteArray) : RowOk k (xs.filter (awayT p)) :=
  ⟨h.ti.away p, Nat.le_trans (List.length_filter_le _ _) h.len, fun e he => h.small e (List.mem_filter.1 he).1, fun e he => h.nd e (List.mem_filter.1 he).1⟩
theorem RowOk.ren {k : Nat} {xs : List NE} (h : RowOk k xs) {fr tt : ByteArray} (hr : Ren xs fr tt) : RowOk k (renT xs fr tt) :=
  ⟨hr.puts.2, by rw [hr.length]; exact h.len, fun e he => by obtain ⟨a, ha, rfl⟩ := List.mem_map.1 ((hr.mem2 e).1 he); exact h.small a ha, fun e he => by obtain ⟨a, ha, rfl⟩ := List.mem_map.1 ((hr.mem2 e).1 he); exact h.nd a ha⟩
theorem RowOk.puts {k : Nat} {xs : List NE} (h : RowOk k xs) {L : List NE} (hL : ∀ e ∈ L, NdIn e.2 ∧ e.2.data.size ≤ 500) (hl : L.length ≤ 2) : RowOk (k + 2) (putsT xs L).2 :=
  ⟨putsT_ti L h.ti, Nat.le_trans (putsT_len L xs) (by have := h.len; omega), fun e he => by rcases putsT_mem L he with he | he; exact h.small e he; exact (hL e he).2, fun e he => by rcases putsT_mem L he with he | he; exact h.nd e he; exact (hL e he).1⟩
/-- what holds of a live directory behind some steps -/
structure Gd (room : Int) (i : Nat) (s : DS) : Prop where
  rm : s.room = room
  row : RowOk (2 * i) s.xs
  fit : 0 ≤ room → (bytesT s.xs : Int) ≤ room
  ok : s.Ok i
theorem Gd.step {room : Int} {i : Nat} {s : DS} (h : Gd room i s) (why : Int) (ys : List NE) (hys : why = 0 → RowOk (2 * i + 2) ys ∧ (0 ≤ room → (bytesT ys : Int) ≤ room)) : Gd room (i + 1) (stepD s why ys).2 := by
  refine ⟨by rw [stepD_room]; exact h.rm, ?_, ?_, h.ok.step why ys⟩
  · rcases stepD_xs s why ys with e | ⟨hw, e⟩
    · rw [e]; exact h.row.more (by omega)
    · rw [e]; exact (hys hw).1.more (by omega)
  · rcases stepD_xs s why ys with e | ⟨hw, e⟩
    · rw [e]; exact h.fit
    · rw [e]; exact (hys hw).2
theorem fitsW_zero {room : Int} {ys : List NE} (h : fitsW room ys = 0) (h0 : 0 ≤ room) : (bytesT ys : Int) ≤ room := by
  unfold fitsW at h
  by_cases hc : 0 ≤ room ∧ room < (bytesT ys : Int)
  · rw [if_pos hc] at h; cases h
  · omega
theorem Gd.put {room : Int} {i : Nat} {s : DS} (h : Gd room i s) (p : ByteArray) {n : Nd} (hn : NdIn n) (hs : n.data.size ≤ 500) : Gd room (i + 1) (stepD s (putW room s.xs p n) (putT s.xs p n)).2 :=
  h.step _ _ fun hw => ⟨(h.row.put p hn hs).more (by omega), fun h0 => by
    unfold putW at hw
    by_cases hm : mayT s.xs p n = 0
    · rw [if_neg (by simpa using hm)] at hw; exact fitsW_zero hw h0
    · rw [if_pos hm] at hw; exact absurd hw hm⟩
theorem Gd.remove {room : Int} {i : Nat} {s : DS} (h : Gd room i s) (p : ByteArray) : Gd room (i + 1) (stepD s (whyDrop s.xs p) (dropT s.xs p)).2 :=
  h.step _ _ fun _ => ⟨(h.row.drop p).more (by omega), fun h0 => by have := dropT_bytes h.row.ti.up p; have := h.fit h0; omega⟩
theorem Gd.clear {room : Int} {i : Nat} {s : DS} (h : Gd room i s) (p : ByteArray) : Gd room (i + 1) (stepD s (clearW s.xs p) (s.xs.filter (awayT p))).2 :=
  h.step _ _ fun _ => ⟨(h.row.away p).more (by omega), fun h0 => by have := bytesT_filter_le (awayT p) s.xs; have := h.fit h0; omega⟩
theorem Gd.rename {room : Int} {i : Nat} {s : DS} (h : Gd room i s) (hi : i ≤ 100) (fr tt : ByteArray) : Gd room (i + 1) (stepD s (renW s.xs fr tt) (renT s.xs fr tt)).2 :=
  h.step _ _ fun hw => by
    have hr := ren_of h.row.ti (by have := h.row.len; omega) hw
    exact ⟨(h.row.ren hr).more (by omega), fun h0 => by rw [hr.bytes]; exact h.fit h0⟩
theorem Gd.graft {room : Int} {i : Nat} {s : DS} (h : Gd room i s) (p : ByteArray) {L : List NE} (hL : ∀ e ∈ L, NdIn e.2 ∧ e.2.data.size ≤ 500) (hl : L.length ≤ 2) : Gd room (i + 1) (stepD s (graftW room s.xs p L).1 (graftW room s.xs p L).2).2 :=
  h.step _ _ fun hw => by
    unfold graftW at hw ⊢
    by_cases h1 : L.any (awayT p) = true
    · rw [if_pos h1] at hw; cases hw
    · rw [if_neg h1] at hw ⊢
      by_cases h2 : (putsT (s.xs.filter (awayT p)) L).1 = 0
      · rw [if_pos h2] at hw ⊢
        exact ⟨(h.row.away p).puts hL hl, fun h0 => fitsW_zero hw h0⟩
      · rw [if_neg h2] at hw; exact absurd hw h2
end Sw
