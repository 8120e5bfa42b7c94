/- Several texts, joined for the limit of sixty files; each one opens with its own comment. -/
import Derived.Test.YtmpgmgjokliceaaGreatDoorJoin31
import Derived.Test.YtmpgmgjokliceaaGreatDoorJoin18
import Derived.Test.YtmpgmgjokliceaaGreatDoorJoin5
/- dirfs: a live directory, its step. -/
set_option linter.unusedVariables false
set_option linter.unusedSimpArgs false
namespace Sw
/-- a live directory's state -/
structure DS where
  room : Int
  fuse : Int
  ops : Int
  off : Bool
  xs : List NE
/-- a change is done, if it may be, and there is power -/
def stepD (s : DS) (why : Int) (ys : List NE) : Int × DS :=
  if s.off = true then (10, s) else if ¬ why = 0 then (why, s) else if s.fuse = 0 then (10, { s with off := true }) else (0, { s with fuse := max (s.fuse - 1) (-1), ops := s.ops + 1, xs := ys })
structure DS.Ok (s : DS) (k : Nat) : Prop where
  f0 : -1 ≤ s.fuse
  f1 : s.fuse ≤ 9223372036854775807
  o0 : 0 ≤ s.ops
  o1 : s.ops ≤ k
theorem DS.Ok.step {s : DS} {k : Nat} (h : s.Ok k) (why : Int) (ys : List NE) : (stepD s why ys).2.Ok (k + 1) := by
  have := h.f0; have := h.f1; have := h.o0; have := h.o1
  unfold stepD
  split
  · exact ⟨h.f0, h.f1, h.o0, by simp; omega⟩
  · split
    · exact ⟨h.f0, h.f1, h.o0, by simp; omega⟩
    · split
      · exact ⟨h.f0, h.f1, h.o0, by simp; omega⟩
      · exact ⟨by simp; omega, by simp; omega, by simp; omega, by simp; omega⟩
end Sw
namespace Go.Proofs.YtmpgmgjokliceaaGreatDoor
open Go Go.RowKit
open Sw
theorem _root_.Go.Proofs.YtmpgmgjokliceaaGreatDoor.TreeAt.far {W W' : World} {bt bm g : Nat} {xs : List NE} {t : TypeId} {cs : Array Value} (h : TreeAt W bt bm xs) (hB : Blk W g t cs) (h1 : 142 ≠ t) (h2 : 190 ≠ t) (h3 : 197 ≠ t) (hg : W.grownBy W' (some g)) : TreeAt W' bt bm xs := by
  obtain ⟨v, hb, ho⟩ := h.map.row
  refine ⟨h.box.grown hg (by simpa using Blk.other h.box hB h1), ⟨v, hb.grown hg (by simpa using Blk.other hb hB h2), ho.kept hg (.inr (own_ne_blk ho hB h3))⟩, h.map.up, h.map.ok⟩
/-- a live directory in block bd, its tree in bt, the tree's map in bm -/
structure DirAt (w : World) (bd bt bm : Nat) (s : DS) : Prop where
  box : Blk w bd 96 #[.pointer (some ⟨bt, 0, none⟩), .int .i64 s.room, .int .i64 s.fuse, .bool s.off, .int .i64 s.ops]
  tree : TreeAt w bt bm s.xs
theorem DirAt.below {w w' : World} {bd bt bm : Nat} {s : DS} (h : DirAt w bd bt bm s) (hb : Below w.heap.size w w') : DirAt w' bd bt bm s := ⟨h.box.below hb h.box.lt, h.tree.below hb⟩
set_option maxRecDepth 100000 in
set_option maxHeartbeats 4000000 in
theorem step_any (w : World) (bd bt bm f : Nat) (caps : Array Value) (s : DS) (k : Nat) (why : Int) (ys : List NE) (h : DirAt w bd bt bm s) (hok : s.Ok k) (hk : k ≤ 1000) (eg : ∀ args w, (callFunc f args).run Tryz.prog w = .ok (.enter f args) w)
    (hcl : ∀ W bt' bm', Below w.heap.size w W → TreeAt W bt' bm' s.xs → w.heap.size ≤ bm' → Calls Tryz.prog f (#[.pointer (some ⟨bt', 0, none⟩)] ++ caps) W fun e w' => e = .returned (.int .i64 why) ∧ (why = 0 → TreeAt w' bt' bm' ys) ∧ W.grownBy w' (some bm')) :
    Calls Tryz.prog 104 #[.pointer (some ⟨bd, 0, none⟩), .func (.func f) #[] caps] w fun e w' => e = .returned (.int .i64 (stepD s why ys).1) ∧ (∃ bt' bm', DirAt w' bd bt' bm' (stepD s why ys).2) ∧ w.grownBy w' (some bd) := by
  obtain ⟨room, fuse, ops, off, xs⟩ := s
  have HC := Lib.hid (treeClone_any w bt bm xs h.tree)
  have hb := h.box
  have c0 := hb.cell 0
  have c2 := hb.cell 2
  have c3 := hb.cell 3
  have f3 := hb.frozen 3
  simp at c0 c2 c3
  obtain ⟨f0', f1', o0', o1'⟩ := hok
  simp only at f0' f1' o0' o1'
  have HH := Lib.hid (And.intro h hb); clear h hb
  cases off with
  | true =>
    go_enter Tryz.func104, Tryz.ntmps104
    go_wp2_with fail
    go_ret
    exact ⟨rfl, ⟨bt, bm, HH.out.1⟩, grown_refl _ _⟩
  | false =>
    have HCL := Lib.hid hcl; clear hcl
    go_enter Tryz.func104, Tryz.ntmps104
    go_wp2_with fail
    refine HC.out.mono ?_
    rintro e w1 ⟨bt', bm', rfl, ht, hbt, hbm, hb1⟩
    have hB1 := HH.out.2.below hb1 HH.out.2.lt
    have hlt := HH.out.2.lt
    have hT1 := HH.out.1.tree.below hb1
    have HCW := Lib.hid (HCL.out w1 bt' bm' hb1 ht hbm)
    have hg1 : w.grownBy w1 (some bd) := grown_below hb1
    have H1 := Lib.hid (And.intro hB1 (And.intro hT1 hg1)); clear hB1 hT1 hg1 hb1 ht HCL HC
    go_wp2_with fail
    refine HCW.out.mono ?_
    rintro e w2 ⟨rfl, ht2, hg2⟩
    have hB2 := H1.out.1.grown hg2 (by simp; omega)
    have hT2 : TreeAt w2 bt bm xs := by
      obtain ⟨v, hb, ho⟩ := HH.out.1.tree.map.row
      obtain ⟨v1, hb1, ho1⟩ := H1.out.2.1.map.row
      have hbl := hb.lt
      have hol := fun k hk => (ho.lt k hk).2
      have hxl := HH.out.1.tree.box.lt
      refine ⟨H1.out.2.1.box.grown hg2 (by simp; omega), ⟨v1, hb1.grown hg2 (by simp; omega), ho1.kept hg2 ?_⟩, H1.out.2.1.map.up, H1.out.2.1.map.ok⟩
      right
      intro he
      have hev : v1 = v := by
        have e1 := HH.out.1.tree.map
        have := H1.out.2.2.block bm hbl (by
          have := Blk.other hb HH.out.2 (by decide)
          simpa using this)
        unfold Blk at hb hb1
        rw [this, hb] at hb1
        injection hb1 with hb1
        injection hb1 with hb1
        have := congrArg (fun a : Array Value => a[1]?) hb1
        simpa using this.symm
      rw [hev] at he
      have := hol _ he
      omega
    have hg3 : w.grownBy w2 (some bd) := grown_sub H1.out.2.2 hg2 (fun g hg => by cases hg; exact hbm)
    have x0 := hB2.cell 0
    have x2 := hB2.cell 2
    have x3 := hB2.cell 3
    have x4 := hB2.cell 4
    have p0 := hB2.frozen 0
    have p2 := hB2.frozen 2
    have p3 := hB2.frozen 3
    have p4 := hB2.frozen 4
    simp at x0 x2 x3 x4
    have H2 := Lib.hid (And.intro hB2 (And.intro hT2 (And.intro hg3 ht2))); clear hB2 hT2 hg3 ht2 hg2 H1 HCW c0 c2 c3 f3
    by_cases hw : why = 0
    · by_cases hf : fuse = 0
      · have hwe : (why != 0) = false := by rw [hw]; rfl
        have hfe : (fuse == 0) = true := by rw [hf]; rfl
        have HE := Lib.hid (show stepD ⟨room, fuse, ops, false, xs⟩ why ys = (10, ⟨room, fuse, ops, true, xs⟩) from by unfold stepD; rw [if_neg (by simp), if_neg (by simpa using hw), if_pos hf])
        clear hw hf
        go_wp2_with fail
        go_ret
        rw [HE.out]
        have hgg := grown_put H2.out.2.2.1 3 (.bool true)
        exact ⟨rfl, ⟨bt, bm, by have := H2.out.1.put 3 (.bool true); simpa using this, H2.out.2.1.far H2.out.1 (by decide) (by decide) (by decide) (grown_put (grown_refl _ _) 3 _)⟩, hgg⟩
      · have hwe : (why != 0) = false := by rw [hw]; rfl
        have hfe : (fuse == 0) = false := by rw [beq_eq_false_iff_ne]; exact hf
        have hwr : IntKind.i64.wrap (fuse - 1) = fuse - 1 := IntWalk.i64_in _ (by omega)
        have hwo : IntKind.i64.wrap (ops + 1) = ops + 1 := IntWalk.i64_in _ (by omega)
        obtain ⟨F, hF⟩ : ∃ F, max (fuse - 1) (-1) = F := ⟨_, rfl⟩
        have HE := Lib.hid (show stepD ⟨room, fuse, ops, false, xs⟩ why ys = (0, ⟨room, F, ops + 1, false, ys⟩) from by unfold stepD; rw [if_neg (by simp), if_neg (by simpa using hw), if_neg hf]; simp [hF])
        have HT := Lib.hid (H2.out.2.2.2 hw)
        clear hw hf
        go_wp2_with fail
        go_ret
        rw [HE.out]
        have hgg := grown_put (grown_put (grown_put H2.out.2.2.1 2 (.int .i64 F)) 4 (.int .i64 (ops + 1))) 0 (.pointer (some ⟨bt', 0, none⟩))
        have hgl := grown_put (grown_put (grown_put (grown_refl w2 (some bd)) 2 (.int .i64 F)) 4 (.int .i64 (ops + 1))) 0 (.pointer (some ⟨bt', 0, none⟩))
        exact ⟨rfl, ⟨bt', bm', by have := ((H2.out.1.put 2 (.int .i64 F)).put 4 (.int .i64 (ops + 1))).put 0 (.pointer (some ⟨bt', 0, none⟩)); simpa using this, HT.out.far H2.out.1 (by decide) (by decide) (by decide) hgl⟩, hgg⟩
    · have hwe : (why != 0) = true := by rw [bne_iff_ne]; exact hw
      have HE := Lib.hid (show stepD ⟨room, fuse, ops, false, xs⟩ why ys = (why, ⟨room, fuse, ops, false, xs⟩) from by unfold stepD; rw [if_neg (by simp), if_pos hw])
      clear hw
      go_wp2_with fail
      go_ret
      rw [HE.out]
      exact ⟨rfl, ⟨bt, bm, H2.out.1, H2.out.2.1⟩, H2.out.2.2.1⟩
end Go.Proofs.YtmpgmgjokliceaaGreatDoor
/- dirfs: fits, Put, Remove, Clear. -/
set_option linter.unusedVariables false
set_option linter.unusedSimpArgs false
namespace Sw
open Go.Proofs.YtmpgmgjokliceaaGreatDoor (bytesT)
/-- is there no room for a tree? -/
def fitsW (room : Int) (ys : List NE) : Int := if 0 ≤ room ∧ room < (bytesT ys : Int) then 9 else 0
def putW (room : Int) (xs : List NE) (p : ByteArray) (n : Nd) : Int := if ¬ mayT xs p n = 0 then mayT xs p n else fitsW room (putT xs p n)
end Sw
namespace Go.Proofs.YtmpgmgjokliceaaGreatDoor
open Go Go.RowKit
open Sw
set_option maxRecDepth 100000 in
set_option maxHeartbeats 4000000 in
theorem fits_any (w : World) (bd bt bm : Nat) (ys : List NE) (a c d e : Value) (room : Int) (hB : Blk w bd 96 #[a, .int .i64 room, c, d, e]) (h : TreeAt w bt bm ys) (hn : ys.length ≤ 1000000) (hby : bytesT ys ≤ 1000000000) :
    Calls Tryz.prog 106 #[.pointer (some ⟨bd, 0, none⟩), .pointer (some ⟨bt, 0, none⟩)] w fun e w' => e = .returned (.int .i64 (fitsW room ys)) ∧ Below w.heap.size w w' := by
  have hl := hB.lt
  have k0 : ∀ m : Held (Aft w), (HeldW m).cell? ⟨bd, 1, none⟩ = some (.int .i64 room) := fun m => (Aft.cell m hl).trans (hB.cell 1)
  have HBY := Lib.hid (fun m : Held (Aft w) => treeBytes_any (HeldW m) bt bm ys (h.below (HeldW_spec m)) hn hby)
  unfold fitsW
  generalize bytesT ys = S at *
  haveI := Aft.some w
  clear h hB
  by_cases h0 : 0 ≤ room
  · by_cases h1 : room < (S : Int)
    · rw [if_pos ⟨h0, h1⟩]
      go_enter Tryz.func106, Tryz.ntmps106
      go_wp2_with fail
      refine wp_region_class (Aft w) (by kernel_rfl) (by kernel_rfl) (Aft.start w) ?_
      repeat (go_big_quiet_step (with_reducible exact held_below Aft.keep (HBY.out _)))
      refine wpQuiet_nil ?_
      rintro _ ⟨nn, rfl⟩
      have HW := Lib.hid (HeldW_spec nn)
      go_wp2_with fail
      go_ret
      exact ⟨rfl, HW.out⟩
    · rw [if_neg (fun h => h1 h.2)]
      have h2 : (S : Int) ≤ room := by omega
      go_enter Tryz.func106, Tryz.ntmps106
      go_wp2_with fail
      refine wp_region_class (Aft w) (by kernel_rfl) (by kernel_rfl) (Aft.start w) ?_
      repeat (go_big_quiet_step (with_reducible exact held_below Aft.keep (HBY.out _)))
      refine wpQuiet_nil ?_
      rintro _ ⟨nn, rfl⟩
      have HW := Lib.hid (HeldW_spec nn)
      go_wp2_with fail
      go_ret
      exact ⟨rfl, HW.out⟩
  · rw [if_neg (fun h => h0 h.1)]
    have h1 : decide (0 ≤ room) = false := decide_eq_false h0
    go_enter Tryz.func106, Tryz.ntmps106
    go_wp2_with fail
    refine wp_region_class (Aft w) (by kernel_rfl) (by kernel_rfl) (Aft.start w) ?_
    repeat (go_big_quiet_step (with_reducible exact held_below Aft.keep (HBY.out _)))
    refine wpQuiet_nil ?_
    rintro _ ⟨nn, rfl⟩
    have HW := Lib.hid (HeldW_spec nn)
    go_wp2_with fail
    go_ret
    exact ⟨rfl, HW.out⟩
theorem own_blk_turn {W W' : World} {bt bm g : Nat} {xs : List NE} {t : TypeId} {cs : Array Value} (h : TreeAt W bt bm xs) (hB : Blk W g t cs) (ht : 190 ≠ t) (hg : W.grownBy W' (some bm)) : Blk W' g t cs := by
  obtain ⟨u, hb, _⟩ := h.map.row
  exact hB.grown hg (by simpa using (Blk.other hb hB ht).symm)
set_option maxRecDepth 100000 in
set_option maxHeartbeats 4000000 in
theorem dput1_any (w : World) (bd bt bm gp gn gd : Nat) (xs : List NE) (p : ByteArray) (n : Nd) (a c d e : Value) (room : Int) (h : TreeAt w bt bm xs) (hn : xs.length ≤ 1000) (hp : p.size ≤ 90000) (hu : (parentS p).size ≤ 90000) (hin : NdIn n) (hby : bytesT (putT xs p n) ≤ 1000000000)
    (hP : Blk w gp 9 #[.string p]) (hN : Blk w gn 37 n.c) (hD : Blk w gd 49 #[.pointer (some ⟨bd, 0, none⟩)]) (hB : Blk w bd 96 #[a, .int .i64 room, c, d, e]) :
    Calls Tryz.prog 105 #[.pointer (some ⟨bt, 0, none⟩), .pointer (some ⟨gp, 0, none⟩), .pointer (some ⟨gn, 0, none⟩), .pointer (some ⟨gd, 0, none⟩)] w fun e w' => e = .returned (.int .i64 (putW room xs p n)) ∧ TreeAt w' bt bm (putT xs p n) ∧ w.grownBy w' (some bm) := by
  have HP := Lib.hid (treePut_any w bt bm xs p n h (by omega) hp hu hin)
  have hlen := putT_len xs p n
  have HH := Lib.hid (And.intro h (And.intro hD hB))
  have HE := Lib.hid (show putW room xs p n = if ¬ mayT xs p n = 0 then mayT xs p n else fitsW room (putT xs p n) from rfl)
  have c0 := hP.cell 0
  have d0 := hN.cell 0
  have d1 := hN.cell 1
  have d2 := hN.cell 2
  have d3 := hN.cell 3
  simp [Nd.c] at c0 d0 d1 d2 d3
  generalize putW room xs p n = R at *
  generalize mayT xs p n = why at *
  generalize putT xs p n = ys at *
  obtain ⟨kd, md, tm, dt⟩ := n
  simp only [Nd.c] at HP d0 d1 d2 d3
  clear h hP hN hD hB hin hu
  go_enter Tryz.func105, Tryz.ntmps105
  go_wp2_with fail
  refine HP.out.mono ?_
  rintro e1 w1 ⟨rfl, ht, hg⟩
  have hD1 := own_blk_turn HH.out.1 HH.out.2.1 (by decide) hg
  have hB1 := own_blk_turn HH.out.1 HH.out.2.2 (by decide) hg
  have x0 := hD1.cell 0
  simp at x0
  have HF := Lib.hid (fits_any w1 bd bt bm ys a c d e room hB1 ht (by omega) hby)
  have H1 := Lib.hid (And.intro ht hg); clear ht hg hD1 hB1 HH HP
  by_cases hw : why = 0
  · have hwe : (why != 0) = false := by rw [hw]; rfl
    have hR : R = fitsW room ys := by rw [HE.out, if_neg (by simpa using hw)]
    have HR := Lib.hid hR; clear hw hR
    go_wp2_with fail
    refine HF.out.mono ?_
    rintro e2 w2 ⟨rfl, hb2⟩
    have H2 := Lib.hid (And.intro (H1.out.1.below hb2) (grown_trans H1.out.2 (grown_below hb2))); clear hb2
    go_wp2_with fail
    go_ret
    rw [HR.out]
    exact ⟨rfl, H2.out.1, H2.out.2⟩
  · have hwe : (why != 0) = true := by rw [bne_iff_ne]; exact hw
    have HR := Lib.hid (show R = why from by rw [HE.out, if_pos hw]); clear hw
    go_wp2_with fail
    go_ret
    rw [HR.out]
    exact ⟨rfl, H1.out.1, H1.out.2⟩
set_option maxRecDepth 100000 in
set_option maxHeartbeats 4000000 in
theorem dirPut_any (w : World) (bd bt bm : Nat) (s : DS) (k : Nat) (p : ByteArray) (n : Nd) (h : DirAt w bd bt bm s) (hok : s.Ok k) (hk : k ≤ 1000) (hn : s.xs.length ≤ 1000) (hp : p.size ≤ 90000) (hu : (parentS p).size ≤ 90000) (hin : NdIn n) (hby : bytesT (putT s.xs p n) ≤ 1000000000) :
    Calls Tryz.prog 53 #[.pointer (some ⟨bd, 0, none⟩), .string p, .agg n.c] w fun e w' => e = .returned (.int .i64 (stepD s (putW s.room s.xs p n) (putT s.xs p n)).1) ∧ (∃ bt' bm', DirAt w' bd bt' bm' (stepD s (putW s.room s.xs p n) (putT s.xs p n)).2) ∧ w.grownBy w' (some bd) := by
  have hb1 := (Below.refl w.heap.size w).alloc (Nat.le_refl _) (.cells #[.pointer (some ⟨bd, 0, none⟩)] 49)
  have hD1 := Blk.new w 49 #[.pointer (some ⟨bd, 0, none⟩)]
  obtain ⟨w1, hw1⟩ : ∃ w1, w.alloc (.cells #[.pointer (some ⟨bd, 0, none⟩)] 49) = w1 := ⟨_, rfl⟩
  obtain ⟨gd, hgd⟩ : ∃ gd, w.heap.size = gd := ⟨_, rfl⟩
  rw [hw1] at hb1 hD1
  rw [hgd] at hD1
  have hb2 := (Below.refl w1.heap.size w1).alloc (Nat.le_refl _) (.cells #[.string p] 9)
  have hP1 := Blk.new w1 9 #[.string p]
  obtain ⟨w2, hw2⟩ : ∃ w2, w1.alloc (.cells #[.string p] 9) = w2 := ⟨_, rfl⟩
  obtain ⟨gp, hgp⟩ : ∃ gp, w1.heap.size = gp := ⟨_, rfl⟩
  rw [hw2] at hb2 hP1
  rw [hgp] at hP1
  have hb3 := (Below.refl w2.heap.size w2).alloc (Nat.le_refl _) (.cells n.c 37)
  have hN1 := Blk.new w2 37 n.c
  obtain ⟨w3, hw3⟩ : ∃ w3, w2.alloc (.cells n.c 37) = w3 := ⟨_, rfl⟩
  obtain ⟨gn, hgn⟩ : ∃ gn, w2.heap.size = gn := ⟨_, rfl⟩
  rw [hw3] at hb3 hN1
  rw [hgn] at hN1
  have hb13 := hb2.trans (hb3.mono hb2.size)
  have hbw := hb1.trans (hb13.mono hb1.size)
  have hD3 := hD1.below hb13 hD1.lt
  have hP3 := hP1.below hb3 hP1.lt
  have hd := h.below hbw
  have HG := Lib.hid (grown_below hbw : w.grownBy w3 (some bd))
  have HST := Lib.hid (step_any w3 bd bt bm 105 #[.pointer (some ⟨gp, 0, none⟩), .pointer (some ⟨gn, 0, none⟩), .pointer (some ⟨gd, 0, none⟩)] s k (putW s.room s.xs p n) (putT s.xs p n) hd hok hk (enters_of Tryz.func105 (by kernel_rfl) rfl)
    (fun W bt' bm' hb ht hbm => (dput1_any W bd bt' bm' gp gn gd s.xs p n _ _ _ _ s.room ht hn hp hu hin hby (hP3.below hb hP3.lt) (hN1.below hb hN1.lt) (hD3.below hb hD3.lt) (hd.box.below hb hd.box.lt)).mono fun e w' ⟨h1, h2, h3⟩ => ⟨h1, fun _ => h2, h3⟩))
  have x0 := hD3.cell 0
  simp at x0
  have e1 : gd + 1 = gp := by rw [← hgp, ← hw1, ← hgd]; simp
  have e2 : gp + 1 = gn := by rw [← hgn, ← hw2, ← hgp]; simp
  have HWW := Lib.hid (And.intro hw1 (And.intro hw2 (And.intro hw3 (And.intro hgd (And.intro e1 e2)))))
  clear hw1 hw2 hw3 hgd hgp hgn e1 e2 hb1 hb2 hb3 hD1 hP1 hN1 hb13 hbw hD3 hP3 hd h hok hu hin hby
  generalize stepD s (putW s.room s.xs p n) (putT s.xs p n) = R at *
  obtain ⟨kd, md, tm, dt⟩ := n
  simp only [Nd.c] at HWW
  go_enter Tryz.func53, Tryz.ntmps53
  simp only [Nd.c]
  go_wp2_with fail
  rw [HWW.out.1, HWW.out.2.1, HWW.out.2.2.1, HWW.out.2.2.2.1, HWW.out.2.2.2.2.1, HWW.out.2.2.2.2.2]
  refine HST.out.mono ?_
  rintro e w4 ⟨rfl, ⟨bt', bm', hd4⟩, hg4⟩
  have HF := Lib.hid (And.intro hd4 (grown_trans HG.out hg4)); clear hd4 hg4 HST
  go_wp2_with fail
  go_ret
  exact ⟨rfl, ⟨bt', bm', HF.out.1⟩, HF.out.2⟩
end Go.Proofs.YtmpgmgjokliceaaGreatDoor
/- dirfs: Remove, Clear. -/
set_option linter.unusedVariables false
set_option linter.unusedSimpArgs false
namespace Sw
open Go.Proofs.YtmpgmgjokliceaaGreatDoor (awayT)
/-- may what is at a path be cleared? -/
def clearW (xs : List NE) (p : ByteArray) : Int := if (getT xs p).kind = 0 then 7 else 0
end Sw
namespace Go.Proofs.YtmpgmgjokliceaaGreatDoor
open Go Go.RowKit
open Sw
set_option maxRecDepth 100000 in
theorem dremove1_any (w : World) (bt bm gp : Nat) (xs : List NE) (p : ByteArray) (h : TreeAt w bt bm xs) (hn : xs.length ≤ 1000) (hp : p.size ≤ 90000) (hP : Blk w gp 9 #[.string p]) :
    Calls Tryz.prog 109 #[.pointer (some ⟨bt, 0, none⟩), .pointer (some ⟨gp, 0, none⟩)] w fun e w' => e = .returned (.int .i64 (whyDrop xs p)) ∧ TreeAt w' bt bm (dropT xs p) ∧ w.grownBy w' (some bm) := by
  have HP := Lib.hid (treeDrop_any w bt bm xs p h (by omega) hp)
  have c0 := hP.cell 0
  simp at c0
  clear h hP
  go_enter Tryz.func109, Tryz.ntmps109
  go_wp2_with fail
  refine HP.out.mono ?_
  rintro e1 w1 ⟨rfl, ht, hg⟩
  have HF := Lib.hid (And.intro ht hg); clear ht hg HP
  go_wp2_with fail
  go_ret
  exact ⟨rfl, HF.out.1, HF.out.2⟩
set_option maxRecDepth 100000 in
set_option maxHeartbeats 4000000 in
theorem dirRemove_any (w : World) (bd bt bm : Nat) (s : DS) (k : Nat) (p : ByteArray) (h : DirAt w bd bt bm s) (hok : s.Ok k) (hk : k ≤ 1000) (hn : s.xs.length ≤ 1000) (hp : p.size ≤ 90000) :
    Calls Tryz.prog 55 #[.pointer (some ⟨bd, 0, none⟩), .string p] w fun e w' => e = .returned (.int .i64 (stepD s (whyDrop s.xs p) (dropT s.xs p)).1) ∧ (∃ bt' bm', DirAt w' bd bt' bm' (stepD s (whyDrop s.xs p) (dropT s.xs p)).2) ∧ w.grownBy w' (some bd) := by
  have hb1 := (Below.refl w.heap.size w).alloc (Nat.le_refl _) (.cells #[.string p] 9)
  have hP1 := Blk.new w 9 #[.string p]
  have hd := h.below hb1
  have HG := Lib.hid (grown_below hb1 : w.grownBy (w.alloc (.cells #[.string p] 9)) (some bd))
  have HST := Lib.hid (step_any _ bd bt bm 109 #[.pointer (some ⟨w.heap.size, 0, none⟩)] s k (whyDrop s.xs p) (dropT s.xs p) hd hok hk (enters_of Tryz.func109 (by kernel_rfl) rfl)
    (fun W bt' bm' hb ht hbm => (dremove1_any W bt' bm' w.heap.size s.xs p ht hn hp (hP1.below hb hP1.lt)).mono fun e w' ⟨h1, h2, h3⟩ => ⟨h1, fun _ => h2, h3⟩))
  clear hb1 hP1 hd h hok
  generalize stepD s (whyDrop s.xs p) (dropT s.xs p) = R at *
  go_enter Tryz.func55, Tryz.ntmps55
  go_wp2_with fail
  refine HST.out.mono ?_
  rintro e w4 ⟨rfl, ⟨bt', bm', hd4⟩, hg4⟩
  have HF := Lib.hid (And.intro hd4 (grown_trans HG.out hg4)); clear hd4 hg4 HST
  go_wp2_with fail
  go_ret
  exact ⟨rfl, ⟨bt', bm', HF.out.1⟩, HF.out.2⟩
end Go.Proofs.YtmpgmgjokliceaaGreatDoor
/- dirfs: Graft. -/
set_option linter.unusedVariables false
set_option linter.unusedSimpArgs false
namespace Sw
open Go.Proofs.YtmpgmgjokliceaaGreatDoor (awayT putT_len)
/-- entries are put, one behind the other, until one may not be -/
def putsT : List NE → List NE → Int × List NE
  | ys, [] => (0, ys)
  | ys, x :: r => if mayT ys x.1 x.2 = 0 then putsT (putT ys x.1 x.2) r else (mayT ys x.1 x.2, ys)
theorem putsT_step (ys : List NE) (L : List NE) (i : Nat) (h : i < L.length) : putsT ys (L.drop i) = if mayT ys L[i].1 L[i].2 = 0 then putsT (putT ys L[i].1 L[i].2) (L.drop (i + 1)) else (mayT ys L[i].1 L[i].2, ys) := by
  rw [List.drop_eq_getElem_cons h]
  rfl
theorem putsT_len : ∀ (L ys : List NE), (putsT ys L).2.length ≤ ys.length + L.length
  | [], ys => Nat.le_refl _
  | x :: L, ys => by
    unfold putsT
    split
    · have h1 := putsT_len L (putT ys x.1 x.2)
      have h2 := putT_len ys x.1 x.2
      simp only [List.length_cons]
      omega
    · simp only [List.length_cons]; omega
theorem putsT_ti : ∀ (L : List NE) {ys : List NE}, TI ys → TI (putsT ys L).2
  | [], ys, h => h
  | x :: L, ys, h => by
    unfold putsT
    split
    · exact putsT_ti L (h.putT x.1 x.2)
    · exact h
def graftW (room : Int) (xs : List NE) (p : ByteArray) (l : List NE) : Int × List NE :=
  if l.any (awayT p) = true then (1, xs) else if (putsT (xs.filter (awayT p)) l).1 = 0 then (fitsW room (putsT (xs.filter (awayT p)) l).2, (putsT (xs.filter (awayT p)) l).2) else putsT (xs.filter (awayT p)) l
end Sw
namespace Go.Proofs.YtmpgmgjokliceaaGreatDoor
open Go Go.RowKit
open Sw
set_option maxRecDepth 100000 in
set_option maxHeartbeats 8000000 in
theorem dgraft1_any (w0 w : World) (bd bt bm gl gp gd : Nat) (xs : List NE) (p : ByteArray) (v : Value) (l : List NE) (a c d e : Value) (room : Int) (hb0 : Below w0.heap.size w0 w) (hbm : w0.heap.size ≤ bm) (h : TreeAt w bt bm xs) (hti : TI xs) (hn : xs.length ≤ 1000) (hl : l.length ≤ 1000) (hp : p.size ≤ 90000)
    (hin : ∀ x ∈ l, x.1.size ≤ 90000 ∧ NdIn x.2) (hby : bytesT (putsT (xs.filter (awayT p)) l).2 ≤ 1000000000) (hv : SlV w0 5 eCSN v l)
    (hL : Blk w0 gl 22 #[v]) (hP : Blk w0 gp 9 #[.string p]) (hD : Blk w0 gd 49 #[.pointer (some ⟨bd, 0, none⟩)]) (hB : Blk w0 bd 96 #[a, .int .i64 room, c, d, e]) :
    Calls Tryz.prog 107 #[.pointer (some ⟨bt, 0, none⟩), .pointer (some ⟨gl, 0, none⟩), .pointer (some ⟨gp, 0, none⟩), .pointer (some ⟨gd, 0, none⟩)] w fun e w' => e = .returned (.int .i64 (graftW room xs p l).1) ∧ ((graftW room xs p l).1 = 0 → TreeAt w' bt bm (graftW room xs p l).2) ∧ w.grownBy w' (some bm) := by
  obtain ⟨A, cv, rfl, hc1, hc2, hsl⟩ := hv
  obtain ⟨n, hnl⟩ : ∃ n, l.length = n := ⟨_, rfl⟩
  rw [hnl] at hc1 hL hl
  unfold maxLen at hc2
  have boxes : ∀ W, Below w0.heap.size w0 W → W.cell? ⟨gl, 0, none⟩ = some (.slice A n cv) ∧ W.cell? ⟨gp, 0, none⟩ = some (.string p) ∧ W.cell? ⟨gd, 0, none⟩ = some (.pointer (some ⟨bd, 0, none⟩)) ∧ gl < W.heap.size ∧ gp < W.heap.size ∧ gd < W.heap.size := fun W hb =>
    ⟨(hL.below hb hL.lt).cell 0, (hP.below hb hP.lt).cell 0, (hD.below hb hD.lt).cell 0, (hL.below hb hL.lt).lt, (hP.below hb hP.lt).lt, (hD.below hb hD.lt).lt⟩
  have HS := Lib.hid (And.intro hnl (And.intro hsl (And.intro hin hB)))
  have HBX := Lib.hid boxes
  have HT := Lib.hid (And.intro h (And.intro hb0 hti))
  have HG := Lib.hid (And.intro hby (show graftW room xs p l = (if l.any (awayT p) = true then ((1 : Int), xs) else if (putsT (xs.filter (awayT p)) l).1 = 0 then (fitsW room (putsT (xs.filter (awayT p)) l).2, (putsT (xs.filter (awayT p)) l).2) else putsT (xs.filter (awayT p)) l) from rfl))
  obtain ⟨m1, m2, m3, m4, m5, m6⟩ := boxes w hb0
  clear hnl hsl hin hB boxes h hb0 hL hP hD hti hby
  generalize graftW room xs p l = R at *
  go_enter Tryz.func107, Tryz.ntmps107
  go_wp2_with fail
  clear m1 m2 m3 m4 m5 m6
  go_loopw [13] (fun iv wr => ∃ i : Nat, i ≤ n ∧ iv = .int .i64 i ∧ (∀ k (hk : k < l.length), k < i → awayT p l[k] = false) ∧ Below w.heap.size w wr) (fun iv _ => n - (intOf iv).toNat)
  case atStart => exact ⟨0, Nat.zero_le _, rfl, fun k _ h => absurd h (Nat.not_lt_zero _), Below.refl _ _⟩
  case round =>
    obtain ⟨i, hi, rfl, hall, hb⟩ := hrel
    have hbw := HT.out.2.1.trans (hb.mono HT.out.2.1.size)
    obtain ⟨m1, m2, m3, m4, m5, m6⟩ := HBX.out wr hbw
    have HA := Lib.hid hall; clear hall
    by_cases hlt : i < n
    · have hiL : i < l.length := by rw [HS.out.1]; exact hlt
      obtain ⟨b, off, rfl, hbb, hcs⟩ := (HS.out.2.1.below hbw (Nat.le_refl _)) (by omega)
      have c0 := hcs i hiL 0 (by omega)
      have c1 := hcs i hiL 1 (by omega)
      have c2 := hcs i hiL 2 (by omega)
      have c3' := hcs i hiL 3 (by omega)
      have c4 := hcs i hiL 4 (by omega)
      simp only [eCSN, List.getElem?_cons_succ, List.getElem?_cons_zero, Nat.add_zero] at c0 c1 c2 c3' c4
      clear hcs
      have hi1 : (i : Int) < n := by omega
      have hq := (HS.out.2.2.1 l[i] (List.getElem_mem hiL)).1
      have haw : awayT p l[i] = (!decide (l[i].1 = p) && !inS (upsS l[i].1) p) := rfl
      have hany : awayT p l[i] = true → l.any (awayT p) = true := fun h => List.any_eq_true.2 ⟨_, List.getElem_mem hiL, h⟩
      have HN := Lib.hid (show awayT p l[i] = false → ∀ k (hk : k < l.length), k < i + 1 → awayT p l[k] = false from fun h k hk hki => by
        by_cases e : k = i
        · subst e; exact h
        · exact HA.out k hk (by omega))
      obtain ⟨x, hx⟩ : ∃ x, l[i] = x := ⟨_, rfl⟩
      rw [hx] at HN hany haw
      simp only [hx] at c0 c1 c2 c3' c4 hq
      clear hx
      have hse := str_eq x.1 p
      have hba := (Below.refl wr.heap.size wr).alloc (Nat.le_refl _) (.cells #[.string x.1, .int .i64 x.2.kind, .int .i64 x.2.mode, .int .u32 x.2.time, .string x.2.data] 70)
      have HB := Lib.hid (hb.trans (hba.mono hb.size))
      obtain ⟨q1, q2, q3, q4, q5, q6⟩ := HBX.out _ (hbw.trans (hba.mono hbw.size))
      have HU := Lib.hid (fun W => under_any W p x.1 (by omega))
      have HW := Lib.hid (And.intro haw hany)
      clear hba hb hbw haw hany
      by_cases hxp : x.1 = p
      · rw [decide_eq_true hxp] at hse
        have hse2 : (!(x.1.toList == p.toList)) = false := by rw [hse]; rfl
        have HF := Lib.hid (HN.out (by rw [HW.out.1, decide_eq_true hxp]; rfl))
        clear hxp
        go_wp2_with fail
        go_roundw
        case rel => exact ⟨i + 1, by omega, by go_num, HF.out, HB.out⟩
        case measure => simp [intOf]; omega
      · rw [decide_eq_false hxp] at hse
        have hse2 : (!(x.1.toList == p.toList)) = true := by rw [hse]; rfl
        have HX := Lib.hid (show awayT p x = !inS (upsS x.1) p from by rw [HW.out.1, decide_eq_false hxp]; rfl)
        generalize inS (upsS x.1) p = Q at *
        clear hxp
        go_wp2_with fail
        refine (HU.out _).mono ?_
        rintro e1 w2 ⟨rfl, hb2⟩
        have HB2 := Lib.hid (HB.out.trans (hb2.mono HB.out.size)); clear hb2
        cases Q with
        | true =>
          have HF := Lib.hid (HN.out (by rw [HX.out]; rfl))
          go_wp2_with fail
          go_roundw
          case rel => exact ⟨i + 1, by omega, by go_num, HF.out, HB2.out⟩
          case measure => simp [intOf]; omega
        | false =>
          have HF := Lib.hid (show R = (1, xs) from by rw [HG.out.2, if_pos (HW.out.2 (by rw [HX.out]; rfl))])
          go_wp2_with fail
          go_ret
          rw [HF.out]
          exact ⟨rfl, fun h => absurd h (by simp), grown_below HB2.out⟩
    · obtain rfl : n = i := by omega
      have hno : ¬ l.any (awayT p) = true := fun h => by
        obtain ⟨x, hx, hxa⟩ := List.any_eq_true.1 h
        obtain ⟨k, hk, rfl⟩ := List.mem_iff_getElem.1 hx
        rw [HA.out k hk (by rw [← HS.out.1]; exact hk)] at hxa
        cases hxa
      have hR := HG.out.2
      rw [if_neg hno] at hR
      have HEM := Lib.hid (emptied_any wr bt bm xs p (HT.out.1.below hb) HT.out.2.2 hn hp)
      have HR := Lib.hid (And.intro hR (And.intro hbw (grown_below hb : w.grownBy wr (some bm)))); clear hR hbw hb hno HA
      go_wp2_with fail
      refine HEM.out.mono ?_
      rintro e1 w2 ⟨rfl, ht2, hg2⟩
      have hb2 : Below w0.heap.size w0 w2 := below_grown HR.out.2.1 hg2 hbm HR.out.2.1.size
      obtain ⟨q1, q2, q3, q4, q5, q6⟩ := HBX.out w2 hb2
      obtain ⟨base, hbase⟩ : ∃ base, xs.filter (awayT p) = base := ⟨_, rfl⟩
      have hbl : base.length ≤ 1000 := by rw [← hbase]; exact Nat.le_trans (List.length_filter_le _ _) hn
      have hby := HG.out.1
      rw [hbase] at ht2 HR hby
      have H2 := Lib.hid (And.intro ht2 (And.intro hb2 (And.intro (grown_trans HR.out.2.2 hg2) hby))); clear ht2 hb2 hg2 hbase hby HEM m1 m2 m3 m4 m5 m6 HG
      obtain ⟨wo, hwo⟩ : ∃ wo, wo = wr := ⟨_, rfl⟩
      rw [← hwo] at HR
      clear hwo wr
      go_wp2_with fail
      clear q1 q2 q3 q4 q5 q6
      go_loopw [34] (fun iv wr => ∃ (i : Nat) (ys : List NE), i ≤ n ∧ iv = .int .i64 i ∧ TreeAt wr bt bm ys ∧ putsT base l = putsT ys (l.drop i) ∧ ys.length ≤ 1000 + i ∧ Below w0.heap.size w0 wr ∧ w.grownBy wr (some bm)) (fun iv _ => n - (intOf iv).toNat)
      case atStart => exact ⟨0, base, Nat.zero_le _, rfl, H2.out.1, by rw [List.drop_zero], by omega, H2.out.2.1, H2.out.2.2.1⟩
      case round =>
        obtain ⟨i, ys, hi, rfl, ht, hps, hyl, hbw, hg⟩ := hrel
        by_cases hlt : i < n
        · have hiL : i < l.length := by rw [HS.out.1]; exact hlt
          obtain ⟨b, off, rfl, hbb, hcs⟩ := (HS.out.2.1.below hbw (Nat.le_refl _)) (by omega)
          have c0 := hcs i hiL 0 (by omega)
          have c1 := hcs i hiL 1 (by omega)
          have c2 := hcs i hiL 2 (by omega)
          have c3' := hcs i hiL 3 (by omega)
          have c4 := hcs i hiL 4 (by omega)
          simp only [eCSN, List.getElem?_cons_succ, List.getElem?_cons_zero, Nat.add_zero] at c0 c1 c2 c3' c4
          clear hcs
          have hi1 : (i : Int) < n := by omega
          obtain ⟨hq, hni⟩ := HS.out.2.2.1 l[i] (List.getElem_mem hiL)
          have hst := putsT_step ys l i hiL
          obtain ⟨⟨q, kd, md, tm, dt⟩, hx⟩ : ∃ x, l[i] = x := ⟨_, rfl⟩
          simp only [hx] at c0 c1 c2 c3' c4 hq hni hst
          clear hx
          have hba := (Below.refl wr.heap.size wr).alloc (Nat.le_refl _) (.cells #[.string q, .int .i64 kd, .int .i64 md, .int .u32 tm, .string dt] 70)
          have HP := Lib.hid (treePut_any _ bt bm ys q ⟨kd, md, tm, dt⟩ (ht.below hba) (by omega) (by omega) (by
            rcases parent_last q with ⟨_, h⟩ | ⟨h, he, _⟩
            · rw [h]; decide
            · rw [← he, List.getLast_eq_getElem]; have := (ups_step q _ (by have := List.length_pos_iff.2 h; omega : (upsS q).length - 1 < (upsS q).length)).2.1; omega) hni)
          have hpl := putT_len ys q ⟨kd, md, tm, dt⟩
          have HQ := Lib.hid (And.intro (hps.trans hst) (And.intro (hbw.trans (hba.mono hbw.size)) (grown_trans hg (grown_below hba)))); clear hba ht hps hst hbw hg
          generalize mayT ys q ⟨kd, md, tm, dt⟩ = why at *
          generalize putT ys q ⟨kd, md, tm, dt⟩ = zs at *
          simp only [Nd.c] at HP
          go_wp2_with fail
          refine HP.out.mono ?_
          rintro e1 w3 ⟨rfl, ht3, hg3⟩
          have H3 := Lib.hid (And.intro ht3 (And.intro (below_grown HQ.out.2.1 hg3 hbm HQ.out.2.1.size) (grown_trans HQ.out.2.2 hg3))); clear ht3 hg3 HP
          by_cases hw : why = 0
          · have hwe : (why != 0) = false := by rw [hw]; rfl
            have HF := Lib.hid (show putsT base l = putsT zs (l.drop (i + 1)) from by rw [HQ.out.1, if_pos hw]); clear hw
            go_wp2_with fail
            go_roundw
            case rel => exact ⟨i + 1, zs, by omega, by go_num, H3.out.1, HF.out, by omega, H3.out.2.1, H3.out.2.2⟩
            case measure => simp [intOf]; omega
          · have hwe : (why != 0) = true := by rw [bne_iff_ne]; exact hw
            have HF := Lib.hid (show R = (why, ys) from by rw [HR.out.1, HQ.out.1, if_neg hw, if_neg hw])
            have HW2 := Lib.hid hw; clear hw
            go_wp2_with fail
            go_ret
            rw [HF.out]
            exact ⟨rfl, fun h => absurd h HW2.out, H3.out.2.2⟩
        · obtain rfl : n = i := by omega
          rw [List.drop_of_length_le (by rw [HS.out.1]; omega)] at hps
          have hps' : putsT base l = (0, ys) := hps
          have hR : R = (fitsW room ys, ys) := by rw [HR.out.1, hps', if_pos rfl]
          have hby : bytesT ys ≤ 1000000000 := by have := H2.out.2.2.2; rw [hps'] at this; exact this
          obtain ⟨q1, q2, q3, q4, q5, q6⟩ := HBX.out wr hbw
          have HFT := Lib.hid (fits_any wr bd bt bm ys a c d e room (HS.out.2.2.2.below hbw HS.out.2.2.2.lt) ht (by omega) hby)
          have HZ := Lib.hid (And.intro hR (And.intro ht hg)); clear hR ht hg hps hps' hby hbw
          go_wp2_with fail
          refine HFT.out.mono ?_
          rintro e1 w4 ⟨rfl, hb4⟩
          have HF := Lib.hid (And.intro (HZ.out.2.1.below hb4) (grown_trans HZ.out.2.2 (grown_below hb4))); clear hb4 HFT
          go_wp2_with fail
          go_ret
          rw [HZ.out.1]
          exact ⟨rfl, fun _ => HF.out.1, HF.out.2⟩
set_option maxRecDepth 100000 in
set_option maxHeartbeats 4000000 in
theorem dirGraft_any (w : World) (bd bt bm : Nat) (s : DS) (k : Nat) (p : ByteArray) (v : Value) (l : List NE) (h : DirAt w bd bt bm s) (hti : TI s.xs) (hok : s.Ok k) (hk : k ≤ 1000) (hn : s.xs.length ≤ 1000) (hl : l.length ≤ 1000) (hp : p.size ≤ 90000)
    (hin : ∀ x ∈ l, x.1.size ≤ 90000 ∧ NdIn x.2) (hby : bytesT (putsT (s.xs.filter (awayT p)) l).2 ≤ 1000000000) (hv : SlV w 5 eCSN v l) :
    Calls Tryz.prog 54 #[.pointer (some ⟨bd, 0, none⟩), .string p, v] w fun e w' => e = .returned (.int .i64 (stepD s (graftW s.room s.xs p l).1 (graftW s.room s.xs p l).2).1) ∧ (∃ bt' bm', DirAt w' bd bt' bm' (stepD s (graftW s.room s.xs p l).1 (graftW s.room s.xs p l).2).2) ∧ w.grownBy w' (some bd) := by
  have hb1 := (Below.refl w.heap.size w).alloc (Nat.le_refl _) (.cells #[.pointer (some ⟨bd, 0, none⟩)] 49)
  have hD1 := Blk.new w 49 #[.pointer (some ⟨bd, 0, none⟩)]
  obtain ⟨w1, hw1⟩ : ∃ w1, w.alloc (.cells #[.pointer (some ⟨bd, 0, none⟩)] 49) = w1 := ⟨_, rfl⟩
  obtain ⟨gd, hgd⟩ : ∃ gd, w.heap.size = gd := ⟨_, rfl⟩
  rw [hw1] at hb1 hD1
  rw [hgd] at hD1
  have hb2 := (Below.refl w1.heap.size w1).alloc (Nat.le_refl _) (.cells #[.string p] 9)
  have hP1 := Blk.new w1 9 #[.string p]
  obtain ⟨w2, hw2⟩ : ∃ w2, w1.alloc (.cells #[.string p] 9) = w2 := ⟨_, rfl⟩
  obtain ⟨gp, hgp⟩ : ∃ gp, w1.heap.size = gp := ⟨_, rfl⟩
  rw [hw2] at hb2 hP1
  rw [hgp] at hP1
  have hb3 := (Below.refl w2.heap.size w2).alloc (Nat.le_refl _) (.cells #[v] 22)
  have hN1 := Blk.new w2 22 #[v]
  obtain ⟨w3, hw3⟩ : ∃ w3, w2.alloc (.cells #[v] 22) = w3 := ⟨_, rfl⟩
  obtain ⟨gl, hgl⟩ : ∃ gl, w2.heap.size = gl := ⟨_, rfl⟩
  rw [hw3] at hb3 hN1
  rw [hgl] at hN1
  have hb13 := hb2.trans (hb3.mono hb2.size)
  have hbw := hb1.trans (hb13.mono hb1.size)
  have hD3 := hD1.below hb13 hD1.lt
  have hP3 := hP1.below hb3 hP1.lt
  have hd := h.below hbw
  have hv3 := hv.below hbw (Nat.le_refl _)
  have HG := Lib.hid (grown_below hbw : w.grownBy w3 (some bd))
  have HST := Lib.hid (step_any w3 bd bt bm 107 #[.pointer (some ⟨gl, 0, none⟩), .pointer (some ⟨gp, 0, none⟩), .pointer (some ⟨gd, 0, none⟩)] s k (graftW s.room s.xs p l).1 (graftW s.room s.xs p l).2 hd hok hk (enters_of Tryz.func107 (by kernel_rfl) rfl)
    (fun W bt' bm' hb ht hbm => dgraft1_any w3 W bd bt' bm' gl gp gd s.xs p v l _ _ _ _ s.room hb hbm ht hti hn hl hp hin hby hv3 hN1 hP3 hD3 hd.box))
  have x0 := hD3.cell 0
  simp at x0
  have e1 : gd + 1 = gp := by rw [← hgp, ← hw1, ← hgd]; simp
  have e2 : gp + 1 = gl := by rw [← hgl, ← hw2, ← hgp]; simp
  have HWW := Lib.hid (And.intro hw1 (And.intro hw2 (And.intro hw3 (And.intro hgd (And.intro e1 e2)))))
  obtain ⟨A, c, rfl, _, _, _⟩ := hv
  clear hw1 hw2 hw3 hgd hgp hgl e1 e2 hb1 hb2 hb3 hD1 hP1 hN1 hb13 hbw hD3 hP3 hd h hok hin hby hv3 hti
  generalize stepD s (graftW s.room s.xs p l).1 (graftW s.room s.xs p l).2 = R at *
  obtain ⟨nl, hnl⟩ : ∃ nl, l.length = nl := ⟨_, rfl⟩
  rw [hnl] at HWW
  rw [hnl]
  clear hnl
  go_enter Tryz.func54, Tryz.ntmps54
  go_wp2_with fail
  rw [HWW.out.1, HWW.out.2.1, HWW.out.2.2.1, HWW.out.2.2.2.1, HWW.out.2.2.2.2.1, HWW.out.2.2.2.2.2]
  refine HST.out.mono ?_
  rintro e w4 ⟨rfl, ⟨bt', bm', hd4⟩, hg4⟩
  have HF := Lib.hid (And.intro hd4 (grown_trans HG.out hg4)); clear hd4 hg4 HST
  go_wp2_with fail
  go_ret
  exact ⟨rfl, ⟨bt', bm', HF.out.1⟩, HF.out.2⟩
end Go.Proofs.YtmpgmgjokliceaaGreatDoor
