/- Several texts, joined for the limit of sixty files; each one opens with its own comment. -/
import Derived.Test.YthnnnlbdbkdcaaaGreatDoorJoin16
import Derived.Test.YthnnnlbdbkdcaaaGreatDoorJoin10
import Derived.Test.YthnnnlbdbkdcaaaGreatDoorJoin4
import Derived.Test.YthnnnlbdbkdcaaaGreatDoorJoin14
/- dirfs: fits, Put, Remove, Clear. -/
set_option linter.unusedVariables false
set_option linter.unusedSimpArgs false
namespace Sw
open Go.Proofs.YthnnnlbdbkdcaaaGreatDoor (bytesT)
/-- is there no room for a tree? -/
def fitsW (room : Int) (ys : List NE) : Int := if 0 ≤ room ∧ room < (bytesT ys : Int) then 9 else 0
def putW (room : Int) (xs : List NE) (p : ByteArray) (n : Nd) : Int := if ¬ mayT xs p n = 0 then mayT xs p n else fitsW room (putT xs p n)
end Sw
namespace Go.Proofs.YthnnnlbdbkdcaaaGreatDoor
open Go Go.RowKit
open Sw
set_option maxRecDepth 100000 in
set_option maxHeartbeats 4000000 in
theorem fits_any (w : World) (bd bt bm : Nat) (ys : List NE) (a c d e : Value) (room : Int) (hB : Blk w bd 88 #[a, .int .i64 room, c, d, e]) (h : TreeAt w bt bm ys) (hn : ys.length ≤ 1000000) (hby : bytesT ys ≤ 1000000000) :
    Calls Tryz.prog 67 #[.pointer (some ⟨bd, 0, none⟩), .pointer (some ⟨bt, 0, none⟩)] w fun e w' => e = .returned (.int .i64 (fitsW room ys)) ∧ Below w.heap.size w w' := by
  have hl := hB.lt
  have k0 : ∀ m : Held (Aft w), (HeldW m).cell? ⟨bd, 1, none⟩ = some (.int .i64 room) := fun m => (Aft.cell m hl).trans (hB.cell 1)
  have HBY := Lib.hid (fun m : Held (Aft w) => treeBytes_any (HeldW m) bt bm ys (h.below (HeldW_spec m)) hn hby)
  unfold fitsW
  generalize bytesT ys = S at *
  haveI := Aft.some w
  clear h hB
  by_cases h0 : 0 ≤ room
  · by_cases h1 : room < (S : Int)
    · rw [if_pos ⟨h0, h1⟩]
      go_enter Tryz.func67, Tryz.ntmps67
      go_wp2_with fail
      refine wp_region_class (Aft w) (by kernel_rfl) (by kernel_rfl) (Aft.start w) ?_
      repeat (go_big_quiet_step (with_reducible exact held_below Aft.keep (HBY.out _)))
      refine wpQuiet_nil ?_
      rintro _ ⟨nn, rfl⟩
      have HW := Lib.hid (HeldW_spec nn)
      go_wp2_with fail
      go_ret
      exact ⟨rfl, HW.out⟩
    · rw [if_neg (fun h => h1 h.2)]
      have h2 : (S : Int) ≤ room := by omega
      go_enter Tryz.func67, Tryz.ntmps67
      go_wp2_with fail
      refine wp_region_class (Aft w) (by kernel_rfl) (by kernel_rfl) (Aft.start w) ?_
      repeat (go_big_quiet_step (with_reducible exact held_below Aft.keep (HBY.out _)))
      refine wpQuiet_nil ?_
      rintro _ ⟨nn, rfl⟩
      have HW := Lib.hid (HeldW_spec nn)
      go_wp2_with fail
      go_ret
      exact ⟨rfl, HW.out⟩
  · rw [if_neg (fun h => h0 h.1)]
    have h1 : decide (0 ≤ room) = false := decide_eq_false h0
    go_enter Tryz.func67, Tryz.ntmps67
    go_wp2_with fail
    refine wp_region_class (Aft w) (by kernel_rfl) (by kernel_rfl) (Aft.start w) ?_
    repeat (go_big_quiet_step (with_reducible exact held_below Aft.keep (HBY.out _)))
    refine wpQuiet_nil ?_
    rintro _ ⟨nn, rfl⟩
    have HW := Lib.hid (HeldW_spec nn)
    go_wp2_with fail
    go_ret
    exact ⟨rfl, HW.out⟩
theorem own_blk_turn {W W' : World} {bt bm g : Nat} {xs : List NE} {t : TypeId} {cs : Array Value} (h : TreeAt W bt bm xs) (hB : Blk W g t cs) (ht : 96 ≠ t) (hg : W.grownBy W' (some bm)) : Blk W' g t cs := by
  obtain ⟨u, hb, _⟩ := h.map.row
  exact hB.grown hg (by simpa using (Blk.other hb hB ht).symm)
set_option maxRecDepth 100000 in
set_option maxHeartbeats 4000000 in
theorem dput1_any (w : World) (bd bt bm gp gn gd : Nat) (xs : List NE) (p : ByteArray) (n : Nd) (a c d e : Value) (room : Int) (h : TreeAt w bt bm xs) (hn : xs.length ≤ 1000) (hp : p.size ≤ 90000) (hu : (parentS p).size ≤ 90000) (hin : NdIn n) (hby : bytesT (putT xs p n) ≤ 1000000000)
    (hP : Blk w gp 9 #[.string p]) (hN : Blk w gn 30 n.c) (hD : Blk w gd 50 #[.pointer (some ⟨bd, 0, none⟩)]) (hB : Blk w bd 88 #[a, .int .i64 room, c, d, e]) :
    Calls Tryz.prog 66 #[.pointer (some ⟨bt, 0, none⟩), .pointer (some ⟨gp, 0, none⟩), .pointer (some ⟨gn, 0, none⟩), .pointer (some ⟨gd, 0, none⟩)] w fun e w' => e = .returned (.int .i64 (putW room xs p n)) ∧ TreeAt w' bt bm (putT xs p n) ∧ w.grownBy w' (some bm) := by
  have HP := Lib.hid (treePut_any w bt bm xs p n h (by omega) hp hu hin)
  have hlen := putT_len xs p n
  have HH := Lib.hid (And.intro h (And.intro hD hB))
  have HE := Lib.hid (show putW room xs p n = if ¬ mayT xs p n = 0 then mayT xs p n else fitsW room (putT xs p n) from rfl)
  have c0 := hP.cell 0
  have d0 := hN.cell 0
  have d1 := hN.cell 1
  have d2 := hN.cell 2
  have d3 := hN.cell 3
  simp [Nd.c] at c0 d0 d1 d2 d3
  generalize putW room xs p n = R at *
  generalize mayT xs p n = why at *
  generalize putT xs p n = ys at *
  obtain ⟨kd, md, tm, dt⟩ := n
  simp only [Nd.c] at HP d0 d1 d2 d3
  clear h hP hN hD hB hin hu
  go_enter Tryz.func66, Tryz.ntmps66
  go_wp2_with fail
  refine HP.out.mono ?_
  rintro e1 w1 ⟨rfl, ht, hg⟩
  have hD1 := own_blk_turn HH.out.1 HH.out.2.1 (by decide) hg
  have hB1 := own_blk_turn HH.out.1 HH.out.2.2 (by decide) hg
  have x0 := hD1.cell 0
  simp at x0
  have HF := Lib.hid (fits_any w1 bd bt bm ys a c d e room hB1 ht (by omega) hby)
  have H1 := Lib.hid (And.intro ht hg); clear ht hg hD1 hB1 HH HP
  by_cases hw : why = 0
  · have hwe : (why != 0) = false := by rw [hw]; rfl
    have hR : R = fitsW room ys := by rw [HE.out, if_neg (by simpa using hw)]
    have HR := Lib.hid hR; clear hw hR
    go_wp2_with fail
    refine HF.out.mono ?_
    rintro e2 w2 ⟨rfl, hb2⟩
    have H2 := Lib.hid (And.intro (H1.out.1.below hb2) (grown_trans H1.out.2 (grown_below hb2))); clear hb2
    go_wp2_with fail
    go_ret
    rw [HR.out]
    exact ⟨rfl, H2.out.1, H2.out.2⟩
  · have hwe : (why != 0) = true := by rw [bne_iff_ne]; exact hw
    have HR := Lib.hid (show R = why from by rw [HE.out, if_pos hw]); clear hw
    go_wp2_with fail
    go_ret
    rw [HR.out]
    exact ⟨rfl, H1.out.1, H1.out.2⟩
set_option maxRecDepth 100000 in
set_option maxHeartbeats 4000000 in
theorem dirPut_any (w : World) (bd bt bm : Nat) (s : DS) (k : Nat) (p : ByteArray) (n : Nd) (h : DirAt w bd bt bm s) (hok : s.Ok k) (hk : k ≤ 1000) (hn : s.xs.length ≤ 1000) (hp : p.size ≤ 90000) (hu : (parentS p).size ≤ 90000) (hin : NdIn n) (hby : bytesT (putT s.xs p n) ≤ 1000000000) :
    Calls Tryz.prog 26 #[.pointer (some ⟨bd, 0, none⟩), .string p, .agg n.c] w fun e w' => e = .returned (.int .i64 (stepD s (putW s.room s.xs p n) (putT s.xs p n)).1) ∧ (∃ bt' bm', DirAt w' bd bt' bm' (stepD s (putW s.room s.xs p n) (putT s.xs p n)).2) ∧ w.grownBy w' (some bd) := by
  have hb1 := (Below.refl w.heap.size w).alloc (Nat.le_refl _) (.cells #[.pointer (some ⟨bd, 0, none⟩)] 50)
  have hD1 := Blk.new w 50 #[.pointer (some ⟨bd, 0, none⟩)]
  obtain ⟨w1, hw1⟩ : ∃ w1, w.alloc (.cells #[.pointer (some ⟨bd, 0, none⟩)] 50) = w1 := ⟨_, rfl⟩
  obtain ⟨gd, hgd⟩ : ∃ gd, w.heap.size = gd := ⟨_, rfl⟩
  rw [hw1] at hb1 hD1
  rw [hgd] at hD1
  have hb2 := (Below.refl w1.heap.size w1).alloc (Nat.le_refl _) (.cells #[.string p] 9)
  have hP1 := Blk.new w1 9 #[.string p]
  obtain ⟨w2, hw2⟩ : ∃ w2, w1.alloc (.cells #[.string p] 9) = w2 := ⟨_, rfl⟩
  obtain ⟨gp, hgp⟩ : ∃ gp, w1.heap.size = gp := ⟨_, rfl⟩
  rw [hw2] at hb2 hP1
  rw [hgp] at hP1
  have hb3 := (Below.refl w2.heap.size w2).alloc (Nat.le_refl _) (.cells n.c 30)
  have hN1 := Blk.new w2 30 n.c
  obtain ⟨w3, hw3⟩ : ∃ w3, w2.alloc (.cells n.c 30) = w3 := ⟨_, rfl⟩
  obtain ⟨gn, hgn⟩ : ∃ gn, w2.heap.size = gn := ⟨_, rfl⟩
  rw [hw3] at hb3 hN1
  rw [hgn] at hN1
  have hb13 := hb2.trans (hb3.mono hb2.size)
  have hbw := hb1.trans (hb13.mono hb1.size)
  have hD3 := hD1.below hb13 hD1.lt
  have hP3 := hP1.below hb3 hP1.lt
  have hd := h.below hbw
  have HG := Lib.hid (grown_below hbw : w.grownBy w3 (some bd))
  have HST := Lib.hid (step_any w3 bd bt bm 66 #[.pointer (some ⟨gp, 0, none⟩), .pointer (some ⟨gn, 0, none⟩), .pointer (some ⟨gd, 0, none⟩)] s k (putW s.room s.xs p n) (putT s.xs p n) hd hok hk (enters_of Tryz.func66 (by kernel_rfl) rfl)
    (fun W bt' bm' hb ht hbm => (dput1_any W bd bt' bm' gp gn gd s.xs p n _ _ _ _ s.room ht hn hp hu hin hby (hP3.below hb hP3.lt) (hN1.below hb hN1.lt) (hD3.below hb hD3.lt) (hd.box.below hb hd.box.lt)).mono fun e w' ⟨h1, h2, h3⟩ => ⟨h1, fun _ => h2, h3⟩))
  have x0 := hD3.cell 0
  simp at x0
  have e1 : gd + 1 = gp := by rw [← hgp, ← hw1, ← hgd]; simp
  have e2 : gp + 1 = gn := by rw [← hgn, ← hw2, ← hgp]; simp
  have HWW := Lib.hid (And.intro hw1 (And.intro hw2 (And.intro hw3 (And.intro hgd (And.intro e1 e2)))))
  clear hw1 hw2 hw3 hgd hgp hgn e1 e2 hb1 hb2 hb3 hD1 hP1 hN1 hb13 hbw hD3 hP3 hd h hok hu hin hby
  generalize stepD s (putW s.room s.xs p n) (putT s.xs p n) = R at *
  obtain ⟨kd, md, tm, dt⟩ := n
  simp only [Nd.c] at HWW
  go_enter Tryz.func26, Tryz.ntmps26
  simp only [Nd.c]
  go_wp2_with fail
  rw [HWW.out.1, HWW.out.2.1, HWW.out.2.2.1, HWW.out.2.2.2.1, HWW.out.2.2.2.2.1, HWW.out.2.2.2.2.2]
  refine HST.out.mono ?_
  rintro e w4 ⟨rfl, ⟨bt', bm', hd4⟩, hg4⟩
  have HF := Lib.hid (And.intro hd4 (grown_trans HG.out hg4)); clear hd4 hg4 HST
  go_wp2_with fail
  go_ret
  exact ⟨rfl, ⟨bt', bm', HF.out.1⟩, HF.out.2⟩
end Go.Proofs.YthnnnlbdbkdcaaaGreatDoor
/- dirfs: Remove, Clear. -/
set_option linter.unusedVariables false
set_option linter.unusedSimpArgs false
namespace Sw
open Go.Proofs.YthnnnlbdbkdcaaaGreatDoor (awayT)
/-- may what is at a path be cleared? -/
def clearW (xs : List NE) (p : ByteArray) : Int := if (getT xs p).kind = 0 then 7 else 0
end Sw
namespace Go.Proofs.YthnnnlbdbkdcaaaGreatDoor
open Go Go.RowKit
open Sw
set_option maxRecDepth 100000 in
theorem dremove1_any (w : World) (bt bm gp : Nat) (xs : List NE) (p : ByteArray) (h : TreeAt w bt bm xs) (hn : xs.length ≤ 1000) (hp : p.size ≤ 90000) (hP : Blk w gp 9 #[.string p]) :
    Calls Tryz.prog 75 #[.pointer (some ⟨bt, 0, none⟩), .pointer (some ⟨gp, 0, none⟩)] w fun e w' => e = .returned (.int .i64 (whyDrop xs p)) ∧ TreeAt w' bt bm (dropT xs p) ∧ w.grownBy w' (some bm) := by
  have HP := Lib.hid (treeDrop_any w bt bm xs p h (by omega) hp)
  have c0 := hP.cell 0
  simp at c0
  clear h hP
  go_enter Tryz.func75, Tryz.ntmps75
  go_wp2_with fail
  refine HP.out.mono ?_
  rintro e1 w1 ⟨rfl, ht, hg⟩
  have HF := Lib.hid (And.intro ht hg); clear ht hg HP
  go_wp2_with fail
  go_ret
  exact ⟨rfl, HF.out.1, HF.out.2⟩
set_option maxRecDepth 100000 in
set_option maxHeartbeats 4000000 in
theorem dclear1_any (w : World) (bt bm gp : Nat) (xs : List NE) (p : ByteArray) (h : TreeAt w bt bm xs) (hti : TI xs) (hn : xs.length ≤ 1000) (hp : p.size ≤ 90000) (hP : Blk w gp 9 #[.string p]) :
    Calls Tryz.prog 73 #[.pointer (some ⟨bt, 0, none⟩), .pointer (some ⟨gp, 0, none⟩)] w fun e w' => e = .returned (.int .i64 (clearW xs p)) ∧ (clearW xs p = 0 → TreeAt w' bt bm (xs.filter (awayT p))) ∧ w.grownBy w' (some bm) := by
  have HG := Lib.hid (treeGet_any w bt bm xs p h (by omega) hp)
  have HEM := Lib.hid (fun W (h : TreeAt W bt bm xs) => emptied_any W bt bm xs p h hti hn hp)
  have hfld := nodeField0
  have c0 := hP.cell 0
  simp at c0
  have HH := Lib.hid (And.intro h hP)
  have HE := Lib.hid (show clearW xs p = if (getT xs p).kind = 0 then 7 else 0 from rfl)
  generalize clearW xs p = R at *
  generalize getT xs p = n at *
  obtain ⟨kd, md, tm, dt⟩ := n
  simp only [Nd.c] at HG
  clear h hP hti
  by_cases hk : kd = 0
  · have hke : (kd == 0) = true := by rw [hk]; rfl
    have HK := Lib.hid (show R = 7 from by rw [HE.out]; exact if_pos hk); clear hk
    go_enter Tryz.func73, Tryz.ntmps73
    go_wp2_with fail
    refine HG.out.mono ?_
    rintro e1 w1 ⟨rfl, hb1⟩
    have HB := Lib.hid (grown_below hb1 : w.grownBy w1 (some bm)); clear hb1
    go_wp2_with fail
    go_ret
    rw [HK.out]
    exact ⟨rfl, fun h => absurd h (by decide), HB.out⟩
  · have hke : (kd == 0) = false := by rw [beq_eq_false_iff_ne]; exact hk
    have HK := Lib.hid (show R = 0 from by rw [HE.out]; exact if_neg hk); clear hk
    go_enter Tryz.func73, Tryz.ntmps73
    go_wp2_with fail
    refine HG.out.mono ?_
    rintro e1 w1 ⟨rfl, hb1⟩
    have hP1 := HH.out.2.below hb1 HH.out.2.lt
    have c1 := hP1.cell 0
    simp at c1
    have HE := Lib.hid (HEM.out w1 (HH.out.1.below hb1))
    have HB := Lib.hid (grown_below hb1 : w.grownBy w1 (some bm)); clear hb1 hP1 HG HEM c0
    go_wp2_with fail
    refine HE.out.mono ?_
    rintro e2 w2 ⟨rfl, ht, hg⟩
    have HF := Lib.hid (And.intro ht (grown_trans HB.out hg)); clear ht hg HE
    go_wp2_with fail
    go_ret
    rw [HK.out]
    exact ⟨rfl, fun _ => HF.out.1, HF.out.2⟩
set_option maxRecDepth 100000 in
set_option maxHeartbeats 4000000 in
theorem dirRemove_any (w : World) (bd bt bm : Nat) (s : DS) (k : Nat) (p : ByteArray) (h : DirAt w bd bt bm s) (hok : s.Ok k) (hk : k ≤ 1000) (hn : s.xs.length ≤ 1000) (hp : p.size ≤ 90000) :
    Calls Tryz.prog 33 #[.pointer (some ⟨bd, 0, none⟩), .string p] w fun e w' => e = .returned (.int .i64 (stepD s (whyDrop s.xs p) (dropT s.xs p)).1) ∧ (∃ bt' bm', DirAt w' bd bt' bm' (stepD s (whyDrop s.xs p) (dropT s.xs p)).2) ∧ w.grownBy w' (some bd) := by
  have hb1 := (Below.refl w.heap.size w).alloc (Nat.le_refl _) (.cells #[.string p] 9)
  have hP1 := Blk.new w 9 #[.string p]
  have hd := h.below hb1
  have HG := Lib.hid (grown_below hb1 : w.grownBy (w.alloc (.cells #[.string p] 9)) (some bd))
  have HST := Lib.hid (step_any _ bd bt bm 75 #[.pointer (some ⟨w.heap.size, 0, none⟩)] s k (whyDrop s.xs p) (dropT s.xs p) hd hok hk (enters_of Tryz.func75 (by kernel_rfl) rfl)
    (fun W bt' bm' hb ht hbm => (dremove1_any W bt' bm' w.heap.size s.xs p ht hn hp (hP1.below hb hP1.lt)).mono fun e w' ⟨h1, h2, h3⟩ => ⟨h1, fun _ => h2, h3⟩))
  clear hb1 hP1 hd h hok
  generalize stepD s (whyDrop s.xs p) (dropT s.xs p) = R at *
  go_enter Tryz.func33, Tryz.ntmps33
  go_wp2_with fail
  refine HST.out.mono ?_
  rintro e w4 ⟨rfl, ⟨bt', bm', hd4⟩, hg4⟩
  have HF := Lib.hid (And.intro hd4 (grown_trans HG.out hg4)); clear hd4 hg4 HST
  go_wp2_with fail
  go_ret
  exact ⟨rfl, ⟨bt', bm', HF.out.1⟩, HF.out.2⟩
set_option maxRecDepth 100000 in
set_option maxHeartbeats 4000000 in
theorem dirClear_any (w : World) (bd bt bm : Nat) (s : DS) (k : Nat) (p : ByteArray) (h : DirAt w bd bt bm s) (hti : TI s.xs) (hok : s.Ok k) (hk : k ≤ 1000) (hn : s.xs.length ≤ 1000) (hp : p.size ≤ 90000) :
    Calls Tryz.prog 30 #[.pointer (some ⟨bd, 0, none⟩), .string p] w fun e w' => e = .returned (.int .i64 (stepD s (clearW s.xs p) (s.xs.filter (awayT p))).1) ∧ (∃ bt' bm', DirAt w' bd bt' bm' (stepD s (clearW s.xs p) (s.xs.filter (awayT p))).2) ∧ w.grownBy w' (some bd) := by
  have hb1 := (Below.refl w.heap.size w).alloc (Nat.le_refl _) (.cells #[.string p] 9)
  have hP1 := Blk.new w 9 #[.string p]
  have hd := h.below hb1
  have HG := Lib.hid (grown_below hb1 : w.grownBy (w.alloc (.cells #[.string p] 9)) (some bd))
  have HST := Lib.hid (step_any _ bd bt bm 73 #[.pointer (some ⟨w.heap.size, 0, none⟩)] s k (clearW s.xs p) (s.xs.filter (awayT p)) hd hok hk (enters_of Tryz.func73 (by kernel_rfl) rfl)
    (fun W bt' bm' hb ht hbm => dclear1_any W bt' bm' w.heap.size s.xs p ht hti hn hp (hP1.below hb hP1.lt)))
  clear hb1 hP1 hd h hok hti
  generalize stepD s (clearW s.xs p) (s.xs.filter (awayT p)) = R at *
  go_enter Tryz.func30, Tryz.ntmps30
  go_wp2_with fail
  refine HST.out.mono ?_
  rintro e w4 ⟨rfl, ⟨bt', bm', hd4⟩, hg4⟩
  have HF := Lib.hid (And.intro hd4 (grown_trans HG.out hg4)); clear hd4 hg4 HST
  go_wp2_with fail
  go_ret
  exact ⟨rfl, ⟨bt', bm', HF.out.1⟩, HF.out.2⟩
end Go.Proofs.YthnnnlbdbkdcaaaGreatDoor
/- dirfs.target: may something be renamed so? -/
set_option linter.unusedVariables false
set_option linter.unusedSimpArgs false
namespace Sw
open Go.Proofs.YthnnnlbdbkdcaaaGreatDoor (awayT undT)
def targetT (xs : List NE) (fr tt : ByteArray) : Int :=
  if rightL tt.data.toList = false then 5
  else if (getT xs fr).kind = 0 then 7
  else if fr = tt ∨ inS (upsS tt) fr = true then 1
  else if ¬ (getT xs tt).kind = 0 then 6
  else if parentS tt = ⟨#[]⟩ then 0
  else if (getT xs (parentS tt)).kind = 0 then 7
  else if (getT xs (parentS tt)).kind = 1 then 8
  else 0
def renW (xs : List NE) (fr tt : ByteArray) : Int := if ¬ targetT xs fr tt = 0 then targetT xs fr tt else if ((undT fr xs).all fun e => rightL (mvS fr tt e.1).data.toList) = true then 0 else 4
theorem nodeR_kind {n : Nd} (h : nodeR n = 0) (h0 : ¬ n.kind = 0) : n.kind = 1 ∨ n.kind = 2 := by
  unfold nodeR at h
  by_cases h1 : ¬ n.kind = 0 ∧ ¬ n.kind = 1 ∧ ¬ n.kind = 2
  · rw [if_pos h1] at h; cases h
  · rcases Decidable.em (n.kind = 1) with h2 | h2
    · exact .inl h2
    · right
      exact Decidable.byContradiction fun h3 => h1 ⟨h0, h2, h3⟩
/-- where a rename is let through, all is as it must be -/
theorem ren_of {xs : List NE} {fr tt : ByteArray} (hti : TI xs) (hl : xs.length ≤ 500) (h : renW xs fr tt = 0) : Ren xs fr tt := by
  unfold renW at h
  by_cases ht : targetT xs fr tt = 0
  · rw [if_neg (by simpa using ht)] at h
    by_cases ha : ((undT fr xs).all fun e => rightL (mvS fr tt e.1).data.toList) = true
    · unfold targetT at ht
      by_cases t1 : rightL tt.data.toList = false
      · rw [if_pos t1] at ht; cases ht
      · rw [if_neg t1] at ht
        by_cases t2 : (getT xs fr).kind = 0
        · rw [if_pos t2] at ht; cases ht
        · rw [if_neg t2] at ht
          by_cases t3 : fr = tt ∨ inS (upsS tt) fr = true
          · rw [if_pos t3] at ht; cases ht
          · rw [if_neg t3] at ht
            by_cases t4 : (getT xs tt).kind = 0
            · rw [if_neg (by simpa using t4)] at ht
              refine ⟨hti, hl, by simpa using t1, ⟨_, getT_kind hti.up t2⟩, fun e => t3 (.inl e), fun e => t3 (.inr ((inS_iff _ _).2 e)), fun e he e' => ?_, ?_, fun e he => List.all_eq_true.1 ha e he⟩
              · have := getT_in hti.up he
                rw [e'] at this
                rw [this] at t4
                exact (hti.nod e he).1 t4
              · by_cases t5 : parentS tt = ⟨#[]⟩
                · exact .inl t5
                · rw [if_neg t5] at ht
                  by_cases t6 : (getT xs (parentS tt)).kind = 0
                  · rw [if_pos t6] at ht; cases ht
                  · rw [if_neg t6] at ht
                    by_cases t7 : (getT xs (parentS tt)).kind = 1
                    · rw [if_pos t7] at ht; cases ht
                    · right
                      exact (nodeR_kind (hti.nod _ (getT_kind hti.up t6)).2 t6).resolve_left t7
            · rw [if_pos t4] at ht; cases ht
    · rw [if_neg ha] at h; cases h
  · rw [if_pos ht] at h; exact absurd h ht
theorem ren_zero {xs : List NE} {fr tt : ByteArray} (h : Ren xs fr tt) : renW xs fr tt = 0 := by
  have ht : targetT xs fr tt = 0 := by
    unfold targetT
    obtain ⟨n, hn⟩ := h.had
    have h1 := getT_in h.ti.up hn
    rw [if_neg (by rw [h.rt]; simp), if_neg (by rw [show getT xs fr = n from h1]; exact (h.ti.nod _ hn).1), if_neg (fun hh => hh.elim h.ne (fun e => h.nu ((inS_iff _ _).1 e))), if_neg (by rw [getT_out h.ti.up h.no]; simp [ndZ])]
    rcases h.par with hp | hp
    · rw [if_pos hp]
    · by_cases t5 : parentS tt = ⟨#[]⟩
      · rw [if_pos t5]
      · rw [if_neg t5, if_neg (by rw [hp]; decide), if_neg (by rw [hp]; decide)]
  unfold renW
  rw [if_neg (by simpa using ht), if_pos (List.all_eq_true.2 h.all)]
end Sw
namespace Go.Proofs.YthnnnlbdbkdcaaaGreatDoor
open Go Go.RowKit
open Sw
set_option maxRecDepth 100000 in
set_option maxHeartbeats 8000000 in
theorem target_any (w : World) (bt bm : Nat) (xs : List NE) (fr tt : ByteArray) (h : TreeAt w bt bm xs) (hn : xs.length ≤ 1000) (hf : fr.size ≤ 90000) (ht : tt.size ≤ 90000) :
    Calls Tryz.prog 69 #[.pointer (some ⟨bt, 0, none⟩), .string fr, .string tt] w fun e w' => e = .returned (.int .i64 (targetT xs fr tt)) ∧ Below w.heap.size w w' := by
  have hpz : (parentS tt).size ≤ 90000 := by
    rcases parent_last tt with ⟨_, h⟩ | ⟨h, he, _⟩
    · rw [h]; decide
    · rw [← he, List.getLast_eq_getElem]; have := (ups_step tt _ (by have := List.length_pos_iff.2 h; omega : (upsS tt).length - 1 < (upsS tt).length)).2.1; omega
  have HR := Lib.hid (right_any w tt (by omega))
  have HGF := Lib.hid (fun W (h : TreeAt W bt bm xs) => treeGet_any W bt bm xs fr h (by omega) hf)
  have HGT := Lib.hid (fun W (h : TreeAt W bt bm xs) => treeGet_any W bt bm xs tt h (by omega) ht)
  have HU := Lib.hid (fun W => under_any W fr tt ht)
  have HP := Lib.hid (fun W => parent_any W tt (by omega))
  have HGP := Lib.hid (fun W (h : TreeAt W bt bm xs) => treeGet_any W bt bm xs (parentS tt) h (by omega) hpz)
  have hfld := nodeField0
  have hse := str_eq fr tt
  have HH := Lib.hid h; clear h hpz hn hf ht
  have HA := Lib.hid (show targetT xs fr tt = (if rightL tt.data.toList = false then 5 else if (getT xs fr).kind = 0 then 7 else if fr = tt ∨ inS (upsS tt) fr = true then 1 else if ¬ (getT xs tt).kind = 0 then 6 else if parentS tt = ⟨#[]⟩ then 0 else if (getT xs (parentS tt)).kind = 0 then 7 else if (getT xs (parentS tt)).kind = 1 then 8 else 0) from rfl)
  obtain ⟨D, hD⟩ : ∃ D, decide (fr = tt) = D := ⟨_, rfl⟩
  have HD := Lib.hid (show fr = tt ↔ D = true from by rw [← hD, decide_eq_true_eq])
  rw [hD] at hse
  clear hD
  generalize targetT xs fr tt = ans at *
  generalize rightL tt.data.toList = br at *
  generalize getT xs fr = gf at *
  generalize getT xs tt = gt at *
  generalize inS (upsS tt) fr = bu at *
  generalize getT xs (parentS tt) = gp at *
  obtain ⟨pu, hpu⟩ : ∃ pu, parentS tt = pu := ⟨_, rfl⟩
  rw [hpu] at HA HP HGP
  clear hpu
  obtain ⟨fk, fm, ft, fd⟩ := gf
  obtain ⟨tk, tm, tt', td⟩ := gt
  obtain ⟨pk, pm, pt, pd⟩ := gp
  simp only [Nd.c] at HGF HGT HGP HA
  go_enter Tryz.func69, Tryz.ntmps69
  go_wp2_with fail
  refine HR.out.mono ?_
  rintro e w1 ⟨rfl, hb1⟩
  have H1 := Lib.hid (And.intro hb1 (HH.out.below hb1)); clear hb1
  cases br with
  | false =>
    have HE := Lib.hid (show ans = 5 from by rw [HA.out]; rfl)
    go_wp2_with fail
    go_ret
    rw [HE.out]
    exact ⟨rfl, H1.out.1⟩
  | true =>
    have HF2 := Lib.hid (HGF.out w1 H1.out.2)
    go_wp2_with fail
    refine HF2.out.mono ?_
    rintro e w2 ⟨rfl, hb2⟩
    have H2 := Lib.hid (And.intro (H1.out.1.trans (hb2.mono H1.out.1.size)) (H1.out.2.below hb2)); clear hb2 HF2
    by_cases hfk : fk = 0
    · have hfe : (fk == 0) = true := by rw [hfk]; rfl
      have HE := Lib.hid (show ans = 7 from by rw [HA.out, if_neg (by simp), if_pos hfk]); clear hfk
      go_wp2_with fail
      go_ret
      rw [HE.out]
      exact ⟨rfl, H2.out.1⟩
    · have hfe : (fk == 0) = false := by rw [beq_eq_false_iff_ne]; exact hfk
      have HA2 := Lib.hid (show ans = (if fr = tt ∨ bu = true then 1 else if ¬ tk = 0 then 6 else if pu = ⟨#[]⟩ then 0 else if pk = 0 then 7 else if pk = 1 then 8 else 0) from by rw [HA.out, if_neg (by simp), if_neg hfk]); clear hfk
      cases D with
      | true =>
        have HE := Lib.hid (show ans = 1 from by rw [HA2.out, if_pos (.inl (HD.out.2 rfl))])
        go_wp2_with fail
        go_ret
        rw [HE.out]
        exact ⟨rfl, H2.out.1⟩
      | false =>
        go_wp2_with fail
        refine (HU.out w2).mono ?_
        rintro e w3 ⟨rfl, hb3⟩
        have H3 := Lib.hid (And.intro (H2.out.1.trans (hb3.mono H2.out.1.size)) (H2.out.2.below hb3)); clear hb3
        cases bu with
        | true =>
          have HE := Lib.hid (show ans = 1 from by rw [HA2.out, if_pos (.inr rfl)])
          go_wp2_with fail
          go_ret
          rw [HE.out]
          exact ⟨rfl, H3.out.1⟩
        | false =>
          have HA3 := Lib.hid (show ans = (if ¬ tk = 0 then 6 else if pu = ⟨#[]⟩ then 0 else if pk = 0 then 7 else if pk = 1 then 8 else 0) from by rw [HA2.out, if_neg (fun h => h.elim (fun e => by have := HD.out.1 e; cases this) (fun e => by cases e))])
          have HT2 := Lib.hid (HGT.out w3 H3.out.2)
          go_wp2_with fail
          refine HT2.out.mono ?_
          rintro e w4 ⟨rfl, hb4⟩
          have H4 := Lib.hid (And.intro (H3.out.1.trans (hb4.mono H3.out.1.size)) (H3.out.2.below hb4)); clear hb4 HT2
          by_cases htk : tk = 0
          · have hte : (tk != 0) = false := by rw [htk]; rfl
            have HA4 := Lib.hid (show ans = (if pu = ⟨#[]⟩ then 0 else if pk = 0 then 7 else if pk = 1 then 8 else 0) from by rw [HA3.out, if_neg (by simpa using htk)]); clear htk
            go_wp2_with fail
            refine (HP.out w4).mono ?_
            rintro e w5 ⟨rfl, hb5⟩
            have H5 := Lib.hid (And.intro (H4.out.1.trans (hb5.mono H4.out.1.size)) (H4.out.2.below hb5)); clear hb5
            by_cases hpu : pu = ⟨#[]⟩
            · have HE := Lib.hid (show ans = 0 from by rw [HA4.out, if_pos hpu])
              subst hpu
              go_wp2_with fail
              go_ret
              rw [HE.out]
              exact ⟨rfl, H5.out.1⟩
            · have s3 : pu.toList.isEmpty = false := by
                rw [ByteArray.toList_eq]
                cases hl : pu.data.toList with
                | nil => exact absurd (by cases hq : pu with | mk d => rw [hq] at hl; cases d with | mk l => simp at hl; subst hl; rfl) hpu
                | cons a l => rfl
              have HA5 := Lib.hid (show ans = (if pk = 0 then 7 else if pk = 1 then 8 else 0) from by rw [HA4.out, if_neg hpu]); clear hpu
              have HP2 := Lib.hid (HGP.out w5 H5.out.2)
              go_wp2_with fail
              refine HP2.out.mono ?_
              rintro e w6 ⟨rfl, hb6⟩
              have H6 := Lib.hid (H5.out.1.trans (hb6.mono H5.out.1.size)); clear hb6 HP2
              by_cases hp0 : pk = 0
              · have hpe : (pk == 0) = true := by rw [hp0]; rfl
                have HE := Lib.hid (show ans = 7 from by rw [HA5.out, if_pos hp0]); clear hp0
                go_wp2_with fail
                go_ret
                rw [HE.out]
                exact ⟨rfl, H6.out⟩
              · have hpe : (pk == 0) = false := by rw [beq_eq_false_iff_ne]; exact hp0
                by_cases hp1 : pk = 1
                · have hpe1 : (pk == 1) = true := by rw [hp1]; rfl
                  have HE := Lib.hid (show ans = 8 from by rw [HA5.out, if_neg hp0, if_pos hp1]); clear hp0 hp1
                  go_wp2_with fail
                  go_ret
                  rw [HE.out]
                  exact ⟨rfl, H6.out⟩
                · have hpe1 : (pk == 1) = false := by rw [beq_eq_false_iff_ne]; exact hp1
                  have HE := Lib.hid (show ans = 0 from by rw [HA5.out, if_neg hp0, if_neg hp1]); clear hp0 hp1
                  go_wp2_with fail
                  go_ret
                  rw [HE.out]
                  exact ⟨rfl, H6.out⟩
          · have hte : (tk != 0) = true := by rw [bne_iff_ne]; exact htk
            have HE := Lib.hid (show ans = 6 from by rw [HA3.out, if_pos htk]); clear htk
            go_wp2_with fail
            go_ret
            rw [HE.out]
            exact ⟨rfl, H4.out.1⟩
end Go.Proofs.YthnnnlbdbkdcaaaGreatDoor
/- dirfs: Rename. -/
set_option linter.unusedVariables false
set_option linter.unusedSimpArgs false
namespace Sw
open Go
open Go.Proofs.YthnnnlbdbkdcaaaGreatDoor (awayT undT eCSN)
theorem ups_data {fr q : ByteArray} (h : fr ∈ upsS q) : q.data.toList = fr.data.toList ++ 47 :: jnL (datL ((spS q).drop (spS fr).length)) := by
  obtain ⟨hlt, htk⟩ := ups_take h
  have hne : (spS q).drop (spS fr).length ≠ [] := fun e => by have := congrArg List.length e; simp at this; omega
  have h1 : jnL (datL (spS q)) = q.data.toList := by rw [datL_spS, jnL_spL]
  have h2 : jnL (datL (spS fr)) = fr.data.toList := by rw [datL_spS, jnL_spL]
  rw [← h1, ← h2]
  conv => lhs; rw [← List.take_append_drop (spS fr).length (spS q)]
  rw [datL_app, ← htk, jnL_append _ _ (datL_ne (spS_ne fr)) (datL_ne hne)]
theorem at_size {fr q : ByteArray} (h : q = fr ∨ fr ∈ upsS q) : fr.size ≤ q.size := by
  rcases h with rfl | h
  · exact Nat.le_refl _
  · have := congrArg List.length (ups_data h)
    simp at this
    omega
/-- a row of entries, the first of them renamed -/
def mvRow (fr tt : ByteArray) (U : List NE) (i : Nat) : List NE := (U.take i).map (mvE fr tt) ++ U.drop i
theorem mvRow_zero (fr tt : ByteArray) (U : List NE) : mvRow fr tt U 0 = U := by simp [mvRow]
theorem mvRow_all (fr tt : ByteArray) (U : List NE) : mvRow fr tt U U.length = U.map (mvE fr tt) := by simp [mvRow]
theorem mvRow_len (fr tt : ByteArray) (U : List NE) (i : Nat) (h : i ≤ U.length) : (mvRow fr tt U i).length = U.length := by simp [mvRow]; omega
theorem mvRow_at (fr tt : ByteArray) (U : List NE) (i : Nat) (h : i < U.length) : (mvRow fr tt U i)[i]'(by rw [mvRow_len _ _ _ _ (by omega)]; exact h) = U[i] := by
  unfold mvRow
  rw [List.getElem_append_right (by simp; omega)]
  simp [Nat.min_eq_left (Nat.le_of_lt h)]
theorem mvRow_set (fr tt : ByteArray) (U : List NE) (i : Nat) (h : i < U.length) : (mvRow fr tt U i).set i (mvE fr tt U[i]) = mvRow fr tt U (i + 1) := by
  unfold mvRow
  have h0 : i - ((U.take i).map (mvE fr tt)).length = 0 := by simp; omega
  rw [List.set_append_right _ _ (by simp; omega), h0, List.drop_eq_getElem_cons h, List.set_cons_zero, List.take_succ_eq_append_getElem h, List.map_append, List.append_assoc]
  rfl
theorem flat_path : ∀ (L : List NE) (i : Nat) (h : i < L.length) (s : ByteArray), (L.flatMap eCSN).set (i * 5) (.string s) = (L.set i (s, L[i].2)).flatMap eCSN
  | [], i, h, s => absurd h (by simp)
  | e :: L, 0, h, s => by simp [eCSN]
  | e :: L, i + 1, h, s => by
    have hl : (eCSN e).length = 5 := rfl
    rw [List.flatMap_cons, List.set_append_right _ _ (by rw [hl]; omega), List.set_cons_succ, List.flatMap_cons]
    congr 1
    rw [hl, show (i + 1) * 5 - 5 = i * 5 by omega]
    exact flat_path L i (by simpa using h) s
end Sw
namespace Go.Proofs.YthnnnlbdbkdcaaaGreatDoor
open Go Go.RowKit
open Sw
/-- three texts that lie in cells -/
def RnC (gf gt N : Nat) (a b c : ByteArray) (W : World) : Prop := W.cell? ⟨gf, 0, none⟩ = some (.string a) ∧ W.cell? ⟨gt, 0, none⟩ = some (.string b) ∧ W.cell? ⟨N, 0, none⟩ = some (.string c)
theorem RnC.put {gf gt N g o : Nat} {a b c : ByteArray} {W : World} {v : Value} (h : RnC gf gt N a b c W) (h1 : gf ≠ g) (h2 : gt ≠ g) (h3 : N ≠ g) : RnC gf gt N a b c (W.setCell ⟨g, o, none⟩ v) :=
  ⟨(World.cell?_setCell_other W _ _ _ (fun e => h1 (congrArg Addr.block e).symm)).trans h.1, (World.cell?_setCell_other W _ _ _ (fun e => h2 (congrArg Addr.block e).symm)).trans h.2.1, (World.cell?_setCell_other W _ _ _ (fun e => h3 (congrArg Addr.block e).symm)).trans h.2.2⟩
theorem OwnIt.drew' {w : World} {base : Nat} {v : Value} {L : List NE} (h : OwnIt w base v L) : OwnIt w.drew base v L := World.ownsRow.drew h
theorem OwnIt.path {w : World} {base g n cap : Nat} {L : List NE} (h : OwnIt w base (.slice (some ⟨g, 0, none⟩) n cap) L) (i : Nat) (hi : i < L.length) (s : ByteArray) (hL : L.length = n) : OwnIt (w.setCell ⟨g, i * 5, none⟩ (.string s)) base (.slice (some ⟨g, 0, none⟩) n cap) (L.set i (s, L[i].2)) := by
  unfold OwnIt at *
  rw [List.length_set, ← flat_path L i hi s]
  rw [hL] at h ⊢
  exact (h.stored (i * 5) (.string s)).1
theorem putFold_len (L : List NE) : ∀ xs : List NE, (L.foldl putO xs).length ≤ xs.length + L.length := by
  induction L with
  | nil => intro xs; exact Nat.le_refl _
  | cons e L ih => intro xs; have := ih (putO xs e); have h2 := putT_len xs e.1 e.2; simp only [List.foldl_cons, List.length_cons]; have h3 : (putO xs e).length = (putT xs e.1 e.2).length := rfl; omega
set_option maxRecDepth 100000 in
set_option maxHeartbeats 8000000 in
theorem drename1_any (w : World) (bt bm gf gt : Nat) (xs : List NE) (fr tt : ByteArray) (h : TreeAt w bt bm xs) (hti : TI xs) (hn : xs.length ≤ 1000) (hf : fr.size ≤ 90000) (ht : tt.size ≤ 1000) (hsm : ∀ e ∈ xs, e.1.size ≤ 80000 ∧ NdIn e.2)
    (hF : Blk w gf 9 #[.string fr]) (hT : Blk w gt 9 #[.string tt]) :
    Calls Tryz.prog 68 #[.pointer (some ⟨bt, 0, none⟩), .pointer (some ⟨gf, 0, none⟩), .pointer (some ⟨gt, 0, none⟩)] w fun e w' => e = .returned (.int .i64 (renW xs fr tt)) ∧ (renW xs fr tt = 0 → TreeAt w' bt bm (((undT fr xs).map (mvE fr tt)).foldl putO (xs.filter (awayT fr)))) ∧ w.grownBy w' (some bm) := by
  have HTG := Lib.hid (target_any w bt bm xs fr tt h hn hf (by omega))
  have boxes : ∀ W, Below w.heap.size w W → W.cell? ⟨gf, 0, none⟩ = some (.string fr) ∧ W.cell? ⟨gt, 0, none⟩ = some (.string tt) ∧ gf < W.heap.size ∧ gt < W.heap.size := fun W hb =>
    ⟨(hF.below hb hF.lt).cell 0, (hT.below hb hT.lt).cell 0, (hF.below hb hF.lt).lt, (hT.below hb hT.lt).lt⟩
  have HBX := Lib.hid boxes
  obtain ⟨m1, m2, m3, m4⟩ := boxes w (Below.refl _ _)
  have hun : ∀ e ∈ undT fr xs, e ∈ xs ∧ (e.1 = fr ∨ fr ∈ upsS e.1) := fun e he => (und_iff fr xs e).1 he
  have hul : (undT fr xs).length ≤ xs.length := List.length_filter_le _ _
  have HUN := Lib.hid (fun W (h : TreeAt W bt bm xs) => treeUnder_any W bt bm xs fr h hn hf)
  have HEM := Lib.hid (fun W (h : TreeAt W bt bm xs) => emptied_any W bt bm xs fr h hti hn hf)
  have HE := Lib.hid (show renW xs fr tt = if ¬ targetT xs fr tt = 0 then targetT xs fr tt else if ((undT fr xs).all fun e => rightL (mvS fr tt e.1).data.toList) = true then 0 else 4 from rfl)
  have HH := Lib.hid (And.intro h (And.intro hun hsm)); clear h hF hT boxes hun hti
  generalize renW xs fr tt = R at *
  generalize targetT xs fr tt = why at *
  have hflt : (xs.filter (awayT fr)).length ≤ 1000 := Nat.le_trans (List.length_filter_le _ _) hn
  obtain ⟨base, hbase⟩ : ∃ base, xs.filter (awayT fr) = base := ⟨_, rfl⟩
  rw [hbase] at HEM hflt
  rw [hbase]
  clear hbase
  obtain ⟨U, hU⟩ : ∃ U, undT fr xs = U := ⟨_, rfl⟩
  rw [hU] at HUN HE HH hul
  rw [hU]
  clear hU
  obtain ⟨n, hnU⟩ : ∃ n, U.length = n := ⟨_, rfl⟩
  rw [hnU] at hul
  have HL := Lib.hid hnU; clear hnU
  have hn1000 : n ≤ 1000 := by omega
  go_enter Tryz.func68, Tryz.ntmps68
  go_wp2_with fail
  refine HTG.out.mono ?_
  rintro e w1 ⟨rfl, hb1⟩
  have HB1 := Lib.hid hb1
  obtain ⟨q1, q2, q3, q4⟩ := HBX.out w1 hb1
  clear hb1 m1 m2 m3 m4 HTG
  by_cases hw : why = 0
  · have hwe : (why != 0) = false := by rw [hw]; rfl
    have HE2 := Lib.hid (show R = if (U.all fun e => rightL (mvS fr tt e.1).data.toList) = true then 0 else 4 from by rw [HE.out, if_neg (by simpa using hw)]); clear hw
    have HU1 := Lib.hid (HUN.out w1 (HH.out.1.below HB1.out))
    go_wp2_with fail
    refine HU1.out.mono ?_
    rintro e w2 ⟨r, rfl, ho, hb2⟩
    obtain ⟨A2, c2, rfl, _, hcm, _⟩ := SlV_of_any ho
    have hbw2 := HB1.out.trans (hb2.mono HB1.out.size)
    rw [HL.out]
    rw [HL.out] at ho
    have H2 := Lib.hid (And.intro hbw2 (own_wide ho HB1.out.size : OwnIt w2 w.heap.size (.slice A2 n c2) U)); clear hbw2 hb2 ho q1 q2 q3 q4 HU1 HUN
    unfold maxLen at hcm
    go_wp2_with fail
    go_loopw [23] (fun iv wr => ∃ i : Nat, i ≤ n ∧ iv = .int .i64 i ∧ OwnIt wr w.heap.size (.slice A2 n c2) (mvRow fr tt U i) ∧ Below w.heap.size w wr ∧ (∀ k (hk : k < U.length), k < i → rightL (mvS fr tt U[k].1).data.toList = true)) (fun iv _ => n - (intOf iv).toNat)
    case atStart => exact ⟨0, Nat.zero_le _, rfl, by rw [mvRow_zero]; exact H2.out.2, H2.out.1, fun k _ h => absurd h (Nat.not_lt_zero _)⟩
    case round =>
      obtain ⟨i, hi, rfl, ho, hb, hall⟩ := hrel
      obtain ⟨q1, q2, q3, q4⟩ := HBX.out wr hb
      have HALL := Lib.hid hall; clear hall
      by_cases hlt : i < n
      · have hiL : i < U.length := by rw [HL.out]; exact hlt
        have hlM : (mvRow fr tt U i).length = n := by rw [mvRow_len _ _ _ _ (by omega), HL.out]
        have hiM : i < (mvRow fr tt U i).length := by omega
        have hat := mvRow_at fr tt U i hiL
        have hset := mvRow_set fr tt U i hiL
        obtain ⟨g, cap, cur, hv, hge, hbk, _, _, _, _⟩ := own_form (by have := ho; unfold OwnIt at this; rw [hlM] at this; exact this) (by omega)
        obtain ⟨rfl, rfl⟩ : A2 = some ⟨g, 0, none⟩ ∧ c2 = cap := by injection hv with a b c; exact ⟨a, c⟩
        obtain ⟨A', c', ex, -, -, hsl⟩ := ho.slv
        obtain ⟨b', off', ea, hbb, hcs⟩ := hsl (by omega)
        have hA' : (some ⟨g, 0, none⟩ : Option Addr) = A' := by injection ex
        obtain ⟨rfl, rfl⟩ : g = b' ∧ 0 = off' := by rw [ea] at hA'; injection hA' with hA'; injection hA' with a b; exact ⟨a, b⟩
        have c0 := hcs i hiM 0 (by omega)
        have c1 := hcs i hiM 1 (by omega)
        have c2' := hcs i hiM 2 (by omega)
        have c3' := hcs i hiM 3 (by omega)
        have c4 := hcs i hiM 4 (by omega)
        simp only [hat, eCSN, List.getElem?_cons_succ, List.getElem?_cons_zero, Nat.add_zero, Nat.zero_add] at c0 c1 c2' c3' c4
        clear hcs hsl ex hA' ea hv
        have hi1 : (i : Int) < n := by omega
        obtain ⟨hxx, hxa⟩ := HH.out.2.1 U[i] (List.getElem_mem hiL)
        have hxz := at_size hxa
        have hmv := mv_at (tt := tt) hxa
        have hxs := (HH.out.2.2 U[i] hxx).1
        have HN := Lib.hid (show rightL (mvS fr tt U[i].1).data.toList = true → ∀ k (hk : k < U.length), k < i + 1 → rightL (mvS fr tt U[k].1).data.toList = true from fun h k hk hki => by
          by_cases e : k = i
          · subst e; exact h
          · exact HALL.out k hk (by omega))
        have HNO := Lib.hid (show ¬ rightL (mvS fr tt U[i].1).data.toList = true → ¬ (U.all fun e => rightL (mvS fr tt e.1).data.toList) = true from fun h h' => h (List.all_eq_true.1 h' _ (List.getElem_mem hiL)))
        have hown := ho
        unfold OwnIt at hown
        rw [hlM] at hown
        clear hown
        have hba := (Below.refl wr.heap.size wr).alloc (Nat.le_refl _) (.cells #[.string U[i].1, .int .i64 U[i].2.kind, .int .i64 U[i].2.mode, .int .u32 U[i].2.time, .string U[i].2.data] 32)
        have hbN := Blk.new wr 32 #[.string U[i].1, .int .i64 U[i].2.kind, .int .i64 U[i].2.mode, .int .u32 U[i].2.time, .string U[i].2.data]
        have hms : (mvS fr tt U[i].1).size ≤ 200000 := by rw [hmv, ByteArray.size_append, ByteArray.size_extract]; omega
        have hes : (U[i].1.extract fr.size U[i].1.size).size ≤ 90000 := by rw [ByteArray.size_extract]; omega
        obtain ⟨x, hx⟩ : ∃ x, U[i] = x := ⟨_, rfl⟩
        rw [hx] at hat hset
        simp only [hx] at c0 c1 c2' c3' c4 hxz hmv hba hbN HN HNO hms hes
        clear hx hxx hxa hxs
        obtain ⟨W1, hW1⟩ : ∃ W1, wr.alloc (.cells #[.string x.1, .int .i64 x.2.kind, .int .i64 x.2.mode, .int .u32 x.2.time, .string x.2.data] 32) = W1 := ⟨_, rfl⟩
        obtain ⟨N, hN⟩ : ∃ N, wr.heap.size = N := ⟨_, rfl⟩
        rw [hW1] at hba hbN
        rw [hN] at hbN
        have HW1 := Lib.hid (And.intro hW1 hN); clear hW1 hN
        obtain ⟨S, hS⟩ : ∃ S, mvS fr tt x.1 = S := ⟨_, rfl⟩
        have hoA := ho.below hba
        have hox := (hoA.path i hiM S hlM).drew'
        have hfz : W1.frozen? ⟨g, i * 5, none⟩ = false := by
          have hown := hoA
          unfold OwnIt at hown
          rw [hlM] at hown
          exact hown.frozenAt (i * 5)
        have hcz : W1.cell? ⟨g, i * 5, none⟩ = some (.string x.1) := (hba.cell (p := ⟨g, i * 5, none⟩) hbb).trans c0
        simp only [hat] at hox
        rw [show ((S, x.2) : NE) = mvE fr tt x from by unfold mvE; rw [hS], hset] at hox
        have hbx := ((hb.trans (hba.mono hb.size)).setCell (p := ⟨g, i * 5, none⟩) hge (.string S)).drew
        have hcS : (W1.setCell ⟨g, i * 5, none⟩ (.string S)).drew.cell? ⟨g, i * 5, none⟩ = some (.string S) := World.cell?_setCell_same _ _ _ hcz
        obtain ⟨W2, hW2⟩ : ∃ W2, (W1.setCell ⟨g, i * 5, none⟩ (.string S)).drew = W2 := ⟨_, rfl⟩
        rw [hW2] at hox hbx hcS
        rw [hS] at hmv HN HNO hms
        clear hS
        have hxzI : (fr.size : Int) ≤ x.1.size := by omega
        have hb1 := HBX.out W1 (hb.trans (hba.mono hb.size))
        have hRC : RnC gf gt N fr tt x.1 W1 := ⟨hb1.1, hb1.2.1, hbN.cell 0⟩
        have hRD : RnC gf gt N fr tt x.1 W1.drew := hRC
        have k0 : ∀ m : Held (RnC gf gt N fr tt x.1), (HeldW m).cell? ⟨gf, 0, none⟩ = some (.string fr) := fun m => (HeldW_spec m).1
        have k1 : ∀ m : Held (RnC gf gt N fr tt x.1), (HeldW m).cell? ⟨gt, 0, none⟩ = some (.string tt) := fun m => (HeldW_spec m).2.1
        have k2 : ∀ m : Held (RnC gf gt N fr tt x.1), (HeldW m).cell? ⟨N, 0, none⟩ = some (.string x.1) := fun m => (HeldW_spec m).2.2
        have hgN : N ≠ g := by have := HW1.out.2; omega
        have hgfg : gf ≠ g := by have := HBX.out w (Below.refl _ _); omega
        have hgtg : gt ≠ g := by have := HBX.out w (Below.refl _ _); omega
        have hRS : RnC gf gt N fr tt x.1 (W1.setCell ⟨g, i * 5, none⟩ (.string S)).drew := hRC.put (o := i * 5) (v := .string S) hgfg hgtg hgN
        rw [hW2] at hRS
        have HC := Lib.hid (And.intro hRD hRS)
        have HW2 := Lib.hid hW2; clear hW2
        have HS := Lib.hid (And.intro hox (And.intro hbx hmv))
        have HRT := Lib.hid (fun W => right_any W S (by omega))
        clear hox hbx hmv hb hba hbN hoA hbk hge hb1 hat hset ho hRC hRD hRS hgN hgfg hgtg
        go_wp2_with fail
        rw [HW1.out.1, HW1.out.2]
        refine wp_region_mix (RnC gf gt N fr tt x.1) [(0, true), (1, true), (2, true), (3, true), (4, true), (5, true), (6, true), (7, true), (8, true), (9, true), (10, true), (11, false)] (by kernel_rfl) (by kernel_rfl) ?_
        simp only [pickP, List.filterMap_cons, List.filterMap_nil, List.getElem?_toArray, List.getElem?_cons_succ, List.getElem?_cons_zero, Option.map_some]
        repeat (apply mix_first; apply Exists.intro; refine ⟨fun m => ?_, HC.out.1, ?_⟩; · (go_big_quiet_step (fail); exact wpQuiet_nil rfl))
        refine mix_forced HC.out.1 ?_
        go_wp2_with fail
        rw [← HS.out.2.2, HW2.out]
        show mixC _ _ _ _ _ _ _
        refine mix_nil HC.out.2 ?_
        have HR2 := Lib.hid (HRT.out W2)
        clear k0 k1 k2 HC HRT hcz hfz c0 c1 c2' c3' c4 q1 q2 q3 q4
        cases hr : rightL S.data.toList with
        | true =>
          rw [hr] at HR2
          have HN2 := Lib.hid (HN.out hr); clear hr
          go_wp2_with fail
          refine HR2.out.mono ?_
          rintro e w3 ⟨rfl, hb3⟩
          have H3 := Lib.hid (And.intro (HS.out.1.below hb3) (HS.out.2.1.trans (hb3.mono HS.out.2.1.size))); clear hb3 hcS
          go_wp2_with fail
          go_roundw
          case rel => exact ⟨i + 1, by omega, by go_num, H3.out.1, H3.out.2, HN2.out⟩
          case measure => simp [intOf]; omega
        | false =>
          rw [hr] at HR2
          have HF := Lib.hid (show R = 4 from by rw [HE2.out, if_neg (HNO.out (by rw [hr]; simp))]); clear hr
          go_wp2_with fail
          refine HR2.out.mono ?_
          rintro e w3 ⟨rfl, hb3⟩
          have H3 := Lib.hid (grown_below (HS.out.2.1.trans (hb3.mono HS.out.2.1.size)) : w.grownBy w3 (some bm)); clear hb3 hcS
          go_wp2_with fail
          go_ret
          rw [HF.out]
          exact ⟨rfl, fun h => absurd h (by decide), H3.out⟩
      · obtain rfl : n = i := by omega
        have hall : ∀ e ∈ U, rightL (mvS fr tt e.1).data.toList = true := fun e he => by
          obtain ⟨k, hk, rfl⟩ := List.mem_iff_getElem.1 he
          exact HALL.out k hk (by rw [← HL.out]; exact hk)
        have hR0 : R = 0 := by rw [HE2.out, if_pos (List.all_eq_true.2 hall)]
        have hM : mvRow fr tt U n = U.map (mvE fr tt) := by rw [← HL.out]; exact mvRow_all fr tt U
        rw [hM] at ho
        have hTr := HH.out.1.below hb
        have HM := Lib.hid (HEM.out wr hTr)
        have HO := Lib.hid (And.intro hTr (And.intro ho (And.intro (grown_below hb : w.grownBy wr (some bm)) hR0)))
        have HNI := Lib.hid (show ∀ e ∈ U.map (mvE fr tt), e.1.size ≤ 200 ∧ NdIn e.2 from fun e he => by
          obtain ⟨a, ha, rfl⟩ := List.mem_map.1 he
          have hl := (rightL_len (hall a ha)).1
          have hz : (mvS fr tt a.1).data.toList.length = (mvS fr tt a.1).size := by simp
          exact ⟨by show (mvS fr tt a.1).size ≤ 200; omega, (HH.out.2.2 a (HH.out.2.1 a ha).1).2⟩)
        have HLM := Lib.hid (show (U.map (mvE fr tt)).length = n from by rw [List.length_map, HL.out])
        clear hall hR0 hM hTr ho hb HALL
        obtain ⟨M, hM⟩ : ∃ M, U.map (mvE fr tt) = M := ⟨_, rfl⟩
        rw [hM] at HO HNI HLM
        have HMM := Lib.hid hM; clear hM
        go_wp2_with fail
        refine HM.out.mono ?_
        rintro e w3 ⟨rfl, ht3, hg3⟩
        have H3 := Lib.hid (And.intro ht3 (And.intro (own_turn HO.out.1 HO.out.2.1 hg3) (grown_trans HO.out.2.2.1 hg3))); clear ht3 hg3 HM q1 q2 q3 q4
        obtain ⟨wo, hwo⟩ : ∃ wo, wo = wr := ⟨_, rfl⟩
        rw [← hwo] at HO
        clear hwo wr
        go_wp2_with fail
        go_loopw [52] (fun iv wr => ∃ j : Nat, j ≤ n ∧ iv = .int .i64 j ∧ TreeAt wr bt bm ((M.take j).foldl putO base) ∧ OwnIt wr w.heap.size (.slice A2 n c2) M ∧ w.grownBy wr (some bm)) (fun iv _ => n - (intOf iv).toNat)
        case atStart => exact ⟨0, Nat.zero_le _, rfl, H3.out.1, H3.out.2.1, H3.out.2.2⟩
        case round =>
          obtain ⟨j, hj, rfl, ht3, ho, hg⟩ := hrel
          by_cases hlt2 : j < n
          · have hjM : j < M.length := by rw [HLM.out]; exact hlt2
            obtain ⟨A', c', ex, -, -, hsl⟩ := ho.slv
            obtain ⟨rfl, -, rfl⟩ : A2 = A' ∧ n = M.length ∧ c2 = c' := by injection ex with a b c; exact ⟨a, b, c⟩
            obtain ⟨b, off, rfl, hbb, hcs⟩ := hsl (by omega)
            have c0 := hcs j hjM 0 (by omega)
            have c1 := hcs j hjM 1 (by omega)
            have c2' := hcs j hjM 2 (by omega)
            have c3' := hcs j hjM 3 (by omega)
            have c4 := hcs j hjM 4 (by omega)
            simp only [eCSN, List.getElem?_cons_succ, List.getElem?_cons_zero, Nat.add_zero] at c0 c1 c2' c3' c4
            clear hcs hsl ex
            have hj1 : (j : Int) < n := by omega
            obtain ⟨hq, hni⟩ := HNI.out M[j] (List.getElem_mem hjM)
            have hstep : (M.take (j + 1)).foldl putO base = putT ((M.take j).foldl putO base) M[j].1 M[j].2 := by rw [List.take_succ_eq_append_getElem hjM, List.foldl_append]; rfl
            have hlen := putFold_len (M.take j) base
            rw [List.length_take] at hlen
            obtain ⟨⟨q, kd, md, tm, dt⟩, hx⟩ : ∃ x, M[j] = x := ⟨_, rfl⟩
            simp only [hx] at c0 c1 c2' c3' c4 hq hni hstep
            clear hx
            have hba := (Below.refl wr.heap.size wr).alloc (Nat.le_refl _) (.cells #[.string q, .int .i64 kd, .int .i64 md, .int .u32 tm, .string dt] 32)
            have htw := ht3.below hba
            have HPT := Lib.hid (treePut_any _ bt bm _ q ⟨kd, md, tm, dt⟩ htw (by omega) (by omega) (by
              rcases parent_last q with ⟨_, h⟩ | ⟨h, he, _⟩
              · rw [h]; decide
              · rw [← he, List.getLast_eq_getElem]; have := (ups_step q _ (by have := List.length_pos_iff.2 h; omega : (upsS q).length - 1 < (upsS q).length)).2.1; omega) hni)
            have HG := Lib.hid (And.intro (grown_trans hg (grown_below hba)) (And.intro htw (And.intro (ho.below hba) hstep)))
            clear htw hstep hba ht3 ho hg hlen
            simp only [Nd.c] at HPT
            go_wp2_with fail
            refine HPT.out.mono ?_
            rintro e w4 ⟨rfl, ht4, hg4⟩
            have H4 := Lib.hid (And.intro ht4 (And.intro (own_turn HG.out.2.1 HG.out.2.2.1 hg4) (grown_trans HG.out.1 hg4))); clear ht4 hg4 HPT
            go_wp2_with fail
            go_roundw
            case rel => exact ⟨j + 1, by omega, by go_num, by rw [HG.out.2.2.2]; exact H4.out.1, H4.out.2.1, H4.out.2.2⟩
            case measure => simp [intOf]; omega
          · obtain rfl : n = j := by omega
            rw [List.take_of_length_le (by rw [HLM.out]; omega)] at ht3
            have HF := Lib.hid (And.intro ht3 hg); clear ht3 hg ho
            go_wp2_with fail
            go_ret
            rw [HO.out.2.2.2, HMM.out]
            exact ⟨rfl, fun _ => HF.out.1, HF.out.2⟩
  · have hwe : (why != 0) = true := by rw [bne_iff_ne]; exact hw
    have HF := Lib.hid (show R = why from by rw [HE.out, if_pos hw])
    have HW := Lib.hid hw; clear hw
    go_wp2_with fail
    go_ret
    rw [HF.out]
    exact ⟨rfl, fun h => absurd h HW.out, grown_below HB1.out⟩
set_option maxRecDepth 100000 in
set_option maxHeartbeats 4000000 in
theorem dirRename_any (w : World) (bd bt bm : Nat) (s : DS) (k : Nat) (fr tt : ByteArray) (h : DirAt w bd bt bm s) (hti : TI s.xs) (hok : s.Ok k) (hk : k ≤ 1000) (hn : s.xs.length ≤ 500) (hf : fr.size ≤ 90000) (ht : tt.size ≤ 1000) (hsm : ∀ e ∈ s.xs, e.1.size ≤ 80000 ∧ NdIn e.2) :
    Calls Tryz.prog 27 #[.pointer (some ⟨bd, 0, none⟩), .string fr, .string tt] w fun e w' => e = .returned (.int .i64 (stepD s (renW s.xs fr tt) (renT s.xs fr tt)).1) ∧ (∃ bt' bm', DirAt w' bd bt' bm' (stepD s (renW s.xs fr tt) (renT s.xs fr tt)).2) ∧ w.grownBy w' (some bd) := by
  have hb1 := (Below.refl w.heap.size w).alloc (Nat.le_refl _) (.cells #[.string fr] 9)
  have hF1 := Blk.new w 9 #[.string fr]
  obtain ⟨w1, hw1⟩ : ∃ w1, w.alloc (.cells #[.string fr] 9) = w1 := ⟨_, rfl⟩
  obtain ⟨gf, hgf⟩ : ∃ gf, w.heap.size = gf := ⟨_, rfl⟩
  rw [hw1] at hb1 hF1
  rw [hgf] at hF1
  have hb2 := (Below.refl w1.heap.size w1).alloc (Nat.le_refl _) (.cells #[.string tt] 9)
  have hT2 := Blk.new w1 9 #[.string tt]
  obtain ⟨w2, hw2⟩ : ∃ w2, w1.alloc (.cells #[.string tt] 9) = w2 := ⟨_, rfl⟩
  obtain ⟨gt, hgt⟩ : ∃ gt, w1.heap.size = gt := ⟨_, rfl⟩
  rw [hw2] at hb2 hT2
  rw [hgt] at hT2
  have hbw := hb1.trans (hb2.mono hb1.size)
  have hF2 := hF1.below hb2 hF1.lt
  have hd := h.below hbw
  have HG := Lib.hid (grown_below hbw : w.grownBy w2 (some bd))
  have HST := Lib.hid (step_any w2 bd bt bm 68 #[.pointer (some ⟨gf, 0, none⟩), .pointer (some ⟨gt, 0, none⟩)] s k (renW s.xs fr tt) (renT s.xs fr tt) hd hok hk (enters_of Tryz.func68 (by kernel_rfl) rfl)
    (fun W bt' bm' hb htr hbm => (drename1_any W bt' bm' gf gt s.xs fr tt htr hti (by omega) hf ht hsm (hF2.below hb hF2.lt) (hT2.below hb hT2.lt)).mono fun e w' ⟨h1, h2, h3⟩ => ⟨h1, fun h0 => by rw [← (ren_of hti hn h0).puts.1]; exact h2 h0, h3⟩))
  have e1 : gf + 1 = gt := by rw [← hgt, ← hw1, ← hgf]; simp
  have HWW := Lib.hid (And.intro hw1 (And.intro hw2 (And.intro hgf e1)))
  clear hw1 hw2 hgf hgt e1 hb1 hb2 hF1 hT2 hbw hF2 hd h hok hti hsm
  generalize stepD s (renW s.xs fr tt) (renT s.xs fr tt) = R at *
  go_enter Tryz.func27, Tryz.ntmps27
  go_wp2_with fail
  rw [HWW.out.1, HWW.out.2.1, HWW.out.2.2.1, HWW.out.2.2.2]
  refine HST.out.mono ?_
  rintro e w4 ⟨rfl, ⟨bt', bm', hd4⟩, hg4⟩
  have HF := Lib.hid (And.intro hd4 (grown_trans HG.out hg4)); clear hd4 hg4 HST
  go_wp2_with fail
  go_ret
  exact ⟨rfl, ⟨bt', bm', HF.out.1⟩, HF.out.2⟩
end Go.Proofs.YthnnnlbdbkdcaaaGreatDoor
/- dirfs: New, Get, Tree, Bytes, Fuse, Off, Restart, Ops. -/
set_option linter.unusedVariables false
set_option linter.unusedSimpArgs false
namespace Go.Proofs.YthnnnlbdbkdcaaaGreatDoor
open Go Go.RowKit
open Sw
set_option maxRecDepth 100000 in
theorem dirNew_any (w : World) (room : Int) :
    Calls Tryz.prog 25 #[.int .i64 room] w fun e w' => ∃ bd bt bm, e = .returned (.pointer (some ⟨bd, 0, none⟩)) ∧ DirAt w' bd bt bm ⟨room, -1, 0, false, []⟩ ∧ w.heap.size ≤ bd ∧ Below w.heap.size w w' := by
  have HN := Lib.hid (treeNew_any w)
  go_enter Tryz.func25, Tryz.ntmps25
  go_wp2_with fail
  refine HN.out.mono ?_
  rintro e w1 ⟨bt, bm, rfl, ht, hbt, hbm, hb1⟩
  have hba := (Below.refl w1.heap.size w1).alloc (Nat.le_refl _) (.cells #[.pointer (some ⟨bt, 0, none⟩), .int .i64 room, .int .i64 (-1), .bool false, .int .i64 0] 88)
  have HF := Lib.hid (And.intro (Blk.new w1 88 #[.pointer (some ⟨bt, 0, none⟩), .int .i64 room, .int .i64 (-1), .bool false, .int .i64 0]) (And.intro (ht.below hba) (hb1.trans (hba.mono hb1.size))))
  have hsz := hb1.size
  clear ht hb1 hba HN
  go_wp2_with fail
  go_ret
  exact ⟨_, bt, bm, rfl, ⟨HF.out.1, HF.out.2.1⟩, hsz, HF.out.2.2⟩
set_option maxRecDepth 100000 in
theorem dirTree_any (w : World) (bd bt bm : Nat) (s : DS) (h : DirAt w bd bt bm s) :
    Calls Tryz.prog 29 #[.pointer (some ⟨bd, 0, none⟩)] w fun e w' => ∃ bt' bm', e = .returned (.pointer (some ⟨bt', 0, none⟩)) ∧ TreeAt w' bt' bm' s.xs ∧ w.heap.size ≤ bm' ∧ Below w.heap.size w w' := by
  have HC := Lib.hid (treeClone_any w bt bm s.xs h.tree)
  have c0 := h.box.cell 0
  simp at c0
  clear h
  go_enter Tryz.func29, Tryz.ntmps29
  go_wp2_with fail
  refine HC.out.mono ?_
  rintro e w1 ⟨bt', bm', rfl, ht, hbt, hbm, hb1⟩
  have HF := Lib.hid (And.intro ht hb1); clear ht hb1 HC
  go_wp2_with fail
  go_ret
  exact ⟨bt', bm', rfl, HF.out.1, hbm, HF.out.2⟩
set_option maxRecDepth 100000 in
theorem dirTreeNil_any (w : World) :
    Calls Tryz.prog 29 #[.pointer none] w fun e w' => ∃ bt' bm', e = .returned (.pointer (some ⟨bt', 0, none⟩)) ∧ TreeAt w' bt' bm' [] ∧ Below w.heap.size w w' := by
  have HC := Lib.hid (treeNew_any w)
  go_enter Tryz.func29, Tryz.ntmps29
  go_wp2_with fail
  refine HC.out.mono ?_
  rintro e w1 ⟨bt', bm', rfl, ht, hbt, hbm, hb1⟩
  have HF := Lib.hid (And.intro ht hb1); clear ht hb1 HC
  go_wp2_with fail
  go_ret
  exact ⟨bt', bm', rfl, HF.out.1, HF.out.2⟩
set_option maxRecDepth 100000 in
theorem dirBytes_any (w : World) (bd bt bm : Nat) (s : DS) (h : DirAt w bd bt bm s) (hn : s.xs.length ≤ 1000000) (hby : bytesT s.xs ≤ 1000000000) :
    Calls Tryz.prog 44 #[.pointer (some ⟨bd, 0, none⟩)] w fun e w' => e = .returned (.int .i64 (bytesT s.xs)) ∧ Below w.heap.size w w' := by
  have HC := Lib.hid (dirTree_any w bd bt bm s h)
  clear h
  go_enter Tryz.func44, Tryz.ntmps44
  go_wp2_with fail
  refine HC.out.mono ?_
  rintro e w1 ⟨bt', bm', rfl, ht, hbm, hb1⟩
  have HB := Lib.hid (treeBytes_any w1 bt' bm' s.xs ht hn hby)
  have HF := Lib.hid hb1; clear ht hb1 HC
  go_wp2_with fail
  refine HB.out.mono ?_
  rintro e w2 ⟨rfl, hb2⟩
  have HG := Lib.hid (HF.out.trans (hb2.mono HF.out.size)); clear hb2
  go_wp2_with fail
  go_ret
  exact ⟨rfl, HG.out⟩
set_option maxRecDepth 100000 in
theorem dirBytesNil_any (w : World) :
    Calls Tryz.prog 44 #[.pointer none] w fun e w' => e = .returned (.int .i64 0) ∧ Below w.heap.size w w' := by
  have HC := Lib.hid (dirTreeNil_any w)
  go_enter Tryz.func44, Tryz.ntmps44
  go_wp2_with fail
  refine HC.out.mono ?_
  rintro e w1 ⟨bt', bm', rfl, ht, hb1⟩
  have hB := treeBytes_any w1 bt' bm' [] ht (by decide) (by decide)
  rw [show bytesT [] = 0 from rfl] at hB
  have HB := Lib.hid hB
  have HF := Lib.hid hb1; clear ht hb1 HC hB
  go_wp2_with fail
  refine HB.out.mono ?_
  rintro e w2 ⟨rfl, hb2⟩
  have HG := Lib.hid (HF.out.trans (hb2.mono HF.out.size)); clear hb2
  go_wp2_with fail
  go_ret
  exact ⟨rfl, HG.out⟩
set_option maxRecDepth 100000 in
theorem dirOff_any (w : World) (bd bt bm : Nat) (s : DS) (h : DirAt w bd bt bm s) :
    Calls Tryz.prog 42 #[.pointer (some ⟨bd, 0, none⟩)] w fun e w' => e = .returned (.bool s.off) ∧ w = w' := by
  have c0 := h.box.cell 3
  simp at c0
  clear h
  go_enter Tryz.func42, Tryz.ntmps42
  go_wp2_with fail
  go_ret
  exact ⟨rfl, rfl⟩
set_option maxRecDepth 100000 in
theorem dirOffNil_any (w : World) :
    Calls Tryz.prog 42 #[.pointer none] w fun e w' => e = .returned (.bool false) ∧ w = w' := by
  go_enter Tryz.func42, Tryz.ntmps42
  go_wp2_with fail
  go_ret
  exact ⟨rfl, rfl⟩
set_option maxRecDepth 100000 in
theorem dirOps_any (w : World) (bd bt bm : Nat) (s : DS) (h : DirAt w bd bt bm s) :
    Calls Tryz.prog 43 #[.pointer (some ⟨bd, 0, none⟩)] w fun e w' => e = .returned (.int .i64 s.ops) ∧ w = w' := by
  have c0 := h.box.cell 4
  simp at c0
  clear h
  go_enter Tryz.func43, Tryz.ntmps43
  go_wp2_with fail
  go_ret
  exact ⟨rfl, rfl⟩
set_option maxRecDepth 100000 in
theorem dirOpsNil_any (w : World) :
    Calls Tryz.prog 43 #[.pointer none] w fun e w' => e = .returned (.int .i64 0) ∧ w = w' := by
  go_enter Tryz.func43, Tryz.ntmps43
  go_wp2_with fail
  go_ret
  exact ⟨rfl, rfl⟩
set_option maxRecDepth 100000 in
set_option maxHeartbeats 1000000 in
theorem dirFuse_any (w : World) (bd bt bm : Nat) (s : DS) (n : Int) (h : DirAt w bd bt bm s) :
    Calls Tryz.prog 40 #[.pointer (some ⟨bd, 0, none⟩), .int .i64 n] w fun e w' => e = .returned (.tuple #[]) ∧ DirAt w' bd bt bm { s with fuse := max n (-1) } ∧ w.grownBy w' (some bd) := by
  obtain ⟨room, fuse, ops, off, xs⟩ := s
  have hb := h.box
  have c2 := hb.cell 2
  have f2 := hb.frozen 2
  simp at c2
  have HH := Lib.hid (And.intro h hb); clear h hb
  obtain ⟨F, hF⟩ : ∃ F, max n (-1) = F := ⟨_, rfl⟩
  go_enter Tryz.func40, Tryz.ntmps40
  go_wp2_with fail
  go_end0
  exact ⟨rfl, ⟨by have := HH.out.2.put 2 (.int .i64 F); simpa using this, HH.out.1.tree.far HH.out.2 (by decide) (by decide) (by decide) (grown_put (grown_refl _ _) 2 _)⟩, grown_put (grown_refl _ _) 2 _⟩
set_option maxRecDepth 100000 in
theorem dirFuseNil_any (w : World) (n : Int) :
    Calls Tryz.prog 40 #[.pointer none, .int .i64 n] w fun e w' => e = .returned (.tuple #[]) ∧ w = w' := by
  go_enter Tryz.func40, Tryz.ntmps40
  go_wp2_with fail
  go_end0
  exact ⟨rfl, rfl⟩
set_option maxRecDepth 100000 in
theorem dirRestartNil_any (w : World) :
    Calls Tryz.prog 41 #[.pointer none] w fun e w' => e = .returned (.tuple #[]) ∧ w = w' := by
  go_enter Tryz.func41, Tryz.ntmps41
  go_wp2_with fail
  go_end0
  exact ⟨rfl, rfl⟩
set_option maxRecDepth 100000 in
set_option maxHeartbeats 1000000 in
theorem dirRestart_any (w : World) (bd bt bm : Nat) (s : DS) (h : DirAt w bd bt bm s) :
    Calls Tryz.prog 41 #[.pointer (some ⟨bd, 0, none⟩)] w fun e w' => e = .returned (.tuple #[]) ∧ DirAt w' bd bt bm { s with fuse := -1, off := false } ∧ w.grownBy w' (some bd) := by
  obtain ⟨room, fuse, ops, off, xs⟩ := s
  have hb := h.box
  have c2 := hb.cell 2
  have f2 := hb.frozen 2
  have c3 := hb.cell 3
  have f3 := hb.frozen 3
  simp at c2 c3
  have HH := Lib.hid (And.intro h hb); clear h hb
  go_enter Tryz.func41, Tryz.ntmps41
  go_wp2_with fail
  go_end0
  exact ⟨rfl, ⟨by have := (HH.out.2.put 3 (.bool false)).put 2 (.int .i64 (-1)); simpa using this, HH.out.1.tree.far HH.out.2 (by decide) (by decide) (by decide) (grown_put (grown_put (grown_refl _ _) 3 _) 2 _)⟩, grown_put (grown_put (grown_refl _ _) 3 _) 2 _⟩
end Go.Proofs.YthnnnlbdbkdcaaaGreatDoor
