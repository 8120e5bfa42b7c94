/- Several texts, joined for the limit of sixty files; each one opens with its own comment. -/
import Derived.Test.YtmpgmgjokliceaaGreatDoorJoin23
import Derived.Test.YtmpgmgjokliceaaGreatDoorJoin21
import Derived.Test.YtmpgmgjokliceaaGreatDoorChecked
import Derived.Test.YtmpgmgjokliceaaGreatDoorJoin11
import Derived.Test.YtmpgmgjokliceaaGreatDoorJoin8
import Derived.Test.YtmpgmgjokliceaaGreatDoorJoin5
/- What comes at a path: come of plan's maker. -/
set_option linter.unusedVariables false
set_option linter.unusedSimpArgs false
namespace Go.Proofs.YtmpgmgjokliceaaGreatDoor
open Go Go.RowKit
open Sw
theorem mkr_appN {U X : World} {base gm n : Nat} {cs : Array Value} {o : Value} {xs : List Value} (hB : Blk U gm 37 cs) (ho : U.ownsRow base 40 7 o n xs) (hgr : U.grownBy X o.ownBlock) : Blk X gm 37 cs :=
  hB.grown hgr (fun e => own_ne_blk ho hB (by decide) e.symm)
set_option maxRecDepth 100000 in
set_option maxHeartbeats 8000000 in
theorem come_any (w : World) (base gm bt bm bt2 bm2 : Nat) (tv : Value) (tops : List ByteArray) (xs ys : List NE) (l : List (StepP × Value)) (p : ByteArray) (top : Bool) (h : MkrAt base gm bt bm bt2 bm2 tv tops xs ys l w) (hgm : base ≤ gm) (hll : l.length ≤ 100000) (hxl : xs.length ≤ 1000) (hyl : ys.length ≤ 1000) (htl : tops.length ≤ 1000) (hp : p.size ≤ 90000) (hxd : ∀ e ∈ xs, e.2.data.size ≤ maxLen) (hyd : ∀ e ∈ ys, e.2.data.size ≤ maxLen) (htop : isTop tops p = top) :
    Calls Tryz.prog 40 #[.pointer (some ⟨gm, 0, none⟩), .string p, .bool top] w (MkrPost base gm bt bm bt2 bm2 tv tops xs ys l (comeN xs ys tops p) w) := by
  have hB0 : base ≤ w.heap.size := by obtain ⟨o, hB', _⟩ := h.box; exact Nat.le_trans hgm (Nat.le_of_lt hB'.lt)
  have HU1 := Lib.hid (fun W (hb : Below w.heap.size w W) => treeUnder_any W bt bm xs p (h.t.below hb) hxl hp)
  have HU2 := Lib.hid (fun W (hb : Below w.heap.size w W) => treeUnder_any W bt2 bm2 ys p (h.t2.below hb) hyl hp)
  have HG1 := Lib.hid (fun W (hb : Below w.heap.size w W) => treeGet_any W bt bm xs p (h.t.below hb) (by omega) hp)
  have HG2 := Lib.hid (fun W (hb : Below w.heap.size w W) => treeGet_any W bt2 bm2 ys p (h.t2.below hb) (by omega) hp)
  have HIN := Lib.hid (fun W (hb : Below w.heap.size w W) => inside_any W p tv tops hp ((h.tops.below hb).slv sE_lenP) (by omega))
  have HSM := Lib.hid (fun W (hb : Below w.heap.size w W) => mkrSame_any W base gm bt bm bt2 bm2 tv tops xs ys l p (h.below hb) hxl hyl hp hxd hyd)
  have HGX := Lib.hid (And.intro (getT_sz32 (p := p) h.t.map.up hxd) (getT_sz32 (p := p) h.t2.map.up hyd))
  obtain ⟨o, hB, ho⟩ := h.box
  obtain ⟨n, hn⟩ : ∃ n, l.length = n := ⟨_, rfl⟩
  have hn2 : n ≤ 100000 := by rw [← hn]; exact hll
  have ho' := ho
  rw [hn] at ho'
  have HH := Lib.hid (And.intro h (And.intro hB (And.intro ho (And.intro ho' (And.intro hn hB0)))))
  have hfld := nodeField0
  obtain ⟨Ao, co, rfl, _, _, _⟩ := SlV_of_any ho'
  have htv : ∃ At nt ct, tv = .slice At nt ct := by obtain ⟨A, c, e, _⟩ := h.tops; exact ⟨A, _, c, e⟩
  obtain ⟨At, nt, ct, rfl⟩ := htv
  have y0 := hB.cell 0
  have y1 := hB.cell 1
  have y2 := hB.cell 2
  have y3 := hB.cell 3
  simp only [List.getElem?_toArray, List.getElem?_cons_succ, List.getElem?_cons_zero] at y0 y1 y2 y3
  obtain ⟨R, hR⟩ : ∃ R, comeN xs ys tops p = R := ⟨_, rfl⟩
  have hR2 := hR
  unfold comeN at hR2
  rw [htop] at hR2
  have HR := Lib.hid hR2
  have HTI := Lib.hid (fun (h : top = true) => inside_top (htop.trans h))
  rw [hR]
  clear h hB ho ho' hn hB0 hR hR2 hxd hyd htop hll
  generalize undT p xs = us at *
  generalize undT p ys = vs at *
  generalize insideN tops p = IN at *
  have HNS := Lib.hid (fun W : World => nodeSame_any W (getT xs p) (getT ys p) HGX.out.1 HGX.out.2)
  generalize getT xs p = nx at *
  generalize getT ys p = ny at *
  obtain ⟨sm, hsm⟩ : ∃ s, decide (printN nx = printN ny) = s := ⟨_, rfl⟩
  simp only [hsm] at HNS
  have HPS := Lib.hid hsm
  clear hsm HGX
  have HNP := Lib.hid (rfl : ny = ny)
  obtain ⟨xk, xm, xt, xd⟩ := nx
  obtain ⟨yk, ym, yt, yd⟩ := ny
  simp only [Nd.c] at HG1 HG2 HNS
  go_enter Tryz.func40, Tryz.ntmps40
  go_wp2_with fail
  refine (HG2.out w (Below.refl _ _)).mono ?_
  rintro e w1 ⟨rfl, hb1⟩
  obtain ⟨V, hV⟩ : ∃ V, w1.alloc (.cells #[.int .i64 yk, .int .i64 ym, .int .u32 yt, .string yd] 37) = V := ⟨_, rfl⟩
  obtain ⟨nb, hnb⟩ : ∃ n, w1.heap.size = n := ⟨_, rfl⟩
  have hN : Blk V nb 37 #[.int .i64 yk, .int .i64 ym, .int .u32 yt, .string yd] := by rw [← hV, ← hnb]; exact Blk.new _ _ _
  have hbV : Below w.heap.size w V := hb1.trans (by rw [← hV]; exact (Below.refl _ w1).alloc hb1.size _)
  have HN := Lib.hid hN
  have HB1 := Lib.hid hbV
  have hB1 := HH.out.2.1.below hbV HH.out.2.1.lt
  clear hb1 hN hbV y0 y1 y2 y3 HG2
  have y0 := hB1.cell 0
  have y1 := hB1.cell 1
  have y2 := hB1.cell 2
  have y3 := hB1.cell 3
  simp only [List.getElem?_toArray, List.getElem?_cons_succ, List.getElem?_cons_zero] at y0 y1 y2 y3
  have n0 := HN.out.cell 0
  have n1 := HN.out.cell 1
  have n2 := HN.out.cell 2
  have n3 := HN.out.cell 3
  simp only [List.getElem?_toArray, List.getElem?_cons_succ, List.getElem?_cons_zero] at n0 n1 n2 n3
  clear hB1
  cases top with
  | true =>
    have hIN := HTI.out rfl
    subst hIN
    go_upto_region 1 with fail
    clear hV hnb
    go_wp2_with fail
    refine (HU2.out V HB1.out).mono ?_
    rintro e w2 ⟨r2, rfl, ho2, hb2⟩
    have HB2 := Lib.hid (HB1.out.trans (hb2.mono HB1.out.size))
    obtain ⟨nv, hnv⟩ : ∃ k, vs.length = k := ⟨_, rfl⟩
    have ho2' := ho2
    unfold OwnIt at ho2'
    rw [hnv] at ho2'
    obtain ⟨A2, c2, rfl, _, _, _⟩ := SlV_of_any ho2'
    have hB2 := HH.out.2.1.below HB2.out HH.out.2.1.lt
    clear hb2 ho2 ho2' y0 y1 y2 y3 n0 n1 n2 n3
    have y0 := hB2.cell 0
    have y1 := hB2.cell 1
    have y2 := hB2.cell 2
    have y3 := hB2.cell 3
    simp only [List.getElem?_toArray, List.getElem?_cons_succ, List.getElem?_cons_zero] at y0 y1 y2 y3
    clear hB2
    by_cases hv0 : vs = []
    · have : nv = 0 := by rw [← hnv, hv0]; rfl
      subst this
      have HV0 := Lib.hid hv0
      clear hnv hv0
      go_wp2_with fail
      refine (HIN.out w2 HB2.out).mono ?_
      rintro e w3 ⟨rfl, hb3⟩
      have HB3 := Lib.hid (HB2.out.trans (hb3.mono HB2.out.size))
      clear hb3
      go_wp2_with fail
      go_end0
      have : R = none := by rw [← HR.out]; simp [HV0.out]
      rw [this]
      exact MkrPost.none HH.out.1 HH.out.2.2.2.2.2 HB3.out
    · have hnv0 : (0 : Int) < nv := by
        rw [← hnv]
        have : vs.length ≠ 0 := fun h => hv0 (List.length_eq_zero_iff.1 h)
        omega
      have HV0 := Lib.hid hv0
      clear hnv hv0
      go_wp2_with fail
      refine (HSM.out w2 HB2.out).mono ?_
      rintro e w3 ⟨rfl, hb3⟩
      have HB3 := Lib.hid (HB2.out.trans (hb3.mono HB2.out.size))
      have hB3 := HH.out.2.1.below HB3.out HH.out.2.1.lt
      clear hb3 y0 y1 y2 y3
      have y0 := hB3.cell 0
      have y1 := hB3.cell 1
      have y2 := hB3.cell 2
      have y3 := hB3.cell 3
      simp only [List.getElem?_toArray, List.getElem?_cons_succ, List.getElem?_cons_zero] at y0 y1 y2 y3
      clear hB3
      obtain ⟨sv, hsv⟩ : ∃ s, sameN us vs = s := ⟨_, rfl⟩
      rw [hsv]
      have HSV := Lib.hid hsv
      clear hsv
      cases sv with
      | true =>
        go_wp2_with fail
        refine (HIN.out w3 HB3.out).mono ?_
        rintro e w4 ⟨rfl, hb4⟩
        have HB4 := Lib.hid (HB3.out.trans (hb4.mono HB3.out.size))
        clear hb4
        go_wp2_with fail
        go_end0
        have : R = none := by rw [← HR.out]; simp [HSV.out]
        rw [this]
        exact MkrPost.none HH.out.1 HH.out.2.2.2.2.2 HB4.out
      | false =>
        have HR3 := Lib.hid (show R = some ⟨p, ndZ, true, vs⟩ by rw [← HR.out]; simp [HSV.out, HV0.out])
        clear y0 y1 y2 y3
        have hBk := HH.out.2.1.below HB3.out HH.out.2.1.lt
        have y0 := hBk.cell 0
        have y1 := hBk.cell 1
        have y2 := hBk.cell 2
        have y3 := hBk.cell 3
        simp only [List.getElem?_toArray, List.getElem?_cons_succ, List.getElem?_cons_zero] at y0 y1 y2 y3
        clear hBk
        go_upto_region 2 with fail
        clear y0 y1 y2 y3
        have k0 : ∀ m : Held (fun W => Blk W gm 76 #[.pointer (some ⟨bt, 0, none⟩), .pointer (some ⟨bt2, 0, none⟩), .slice At nt ct, .slice Ao n co]), (HeldW m).cell? ⟨gm, 1, none⟩ = some (.pointer (some ⟨bt2, 0, none⟩)) := fun m => Blk.cell (HeldW_spec m) 1
        have k1 : ∀ m : Held (fun W => Blk W gm 76 #[.pointer (some ⟨bt, 0, none⟩), .pointer (some ⟨bt2, 0, none⟩), .slice At nt ct, .slice Ao n co]), (HeldW m).cell? ⟨gm, 3, none⟩ = some (.slice Ao n co) := fun m => Blk.cell (HeldW_spec m) 3
        have HB4 := Lib.hid (show Below w.heap.size w w3.drew from HB3.out.drew)
        have HC := Lib.hid (HH.out.2.1.below HB4.out HH.out.2.1.lt)
        refine wp_region_mixD (fun W => Blk W gm 76 #[.pointer (some ⟨bt, 0, none⟩), .pointer (some ⟨bt2, 0, none⟩), .slice At nt ct, .slice Ao n co]) [(0, true), (1, true), (2, true), (3, true), (4, true), (5, true), (6, true), (7, true), (8, true), (9, true), (10, true), (11, false), (12, true), (13, false), (14, false), (15, true), (16, true), (17, false)] (by kernel_rfl) (by kernel_rfl) ?_
        simp only [pickP, List.filterMap_cons, List.filterMap_nil, List.getElem?_toArray, List.getElem?_cons_succ, List.getElem?_cons_zero, Option.map_some]
        repeat (apply mixD_first; apply Exists.intro; refine ⟨fun m => ?_, HC.out, ?_⟩; · (go_big_quiet_step (fail); exact wpQuiet_nil rfl))
        refine mixD_forced HC.out ?_
        go_wp2_with fail
        refine (HU2.out w3.drew HB4.out).mono ?_
        rintro e w4 ⟨r4, rfl, ho4, hb4⟩
        have HB5 := Lib.hid (HB4.out.trans (hb4.mono HB4.out.size))
        have HL := Lib.hid (Lies.of_own ho4 eCSN_len (by decide))
        obtain ⟨A4, c4, rfl, _, _, _⟩ := SlV_of_any ho4
        obtain ⟨nw, hnw⟩ : ∃ k, vs.length = k := ⟨_, rfl⟩
        rw [hnw] at HL
        rw [hnw]
        clear ho4 hb4 HC
        have HC := Lib.hid (HH.out.2.1.below HB5.out HH.out.2.1.lt)
        go_wp2_with fail
        show mixD _ _ _ _ _ _ _
        repeat (apply mixD_first; apply Exists.intro; refine ⟨fun m => ?_, HC.out, ?_⟩; · (go_big_quiet_step (fail); exact wpQuiet_nil rfl))
        clear k0 k1 hnw
        have hok := own_kept HH.out.2.2.2.1 HB5.out
        have HOK := Lib.hid (And.intro (HH.out.2.1.below HB5.out HH.out.2.1.lt) (And.intro hok (own_kept HH.out.2.2.1 HB5.out)))
        have hbase : base ≤ w4.heap.size := Nat.le_trans HH.out.2.2.2.2.2 HB5.out.size
        clear hok
        refine mixD_forced HC.out ?_
        go_wp2_with fail
        show mixD _ _ _ _ _ _ _
        have HCA := Lib.hid (HOK.out.1.alloc (.cells #[.string p, .int .i64 0, .int .i64 0, .int .u32 0, .string ⟨#[]⟩, .bool true, .slice A4 nw c4] 40))
        refine mixD_forced HCA.out ?_
        go_wp2_with (at_builtin; go_loud (refine wpList_app rfl _ _ 31 rfl base 40 (.agg #[.string ⟨#[]⟩, .int .i64 0, .int .i64 0, .int .u32 0, .string ⟨#[]⟩, .bool false, .slice none 0 0]) 7 88 Tryz.underlying31 infoSt rfl (by decide) (.slice Ao n co) n _ rfl (HOK.out.2.1.alloc _) w4.heap.size 1 #[.string p, .int .i64 0, .int .i64 0, .int .u32 0, .string ⟨#[]⟩, .bool true, .slice A4 nw c4] 40 rfl (Blk.new _ _ _) rfl (by intro u hu; simp at hu; rcases hu with rfl | rfl | rfl | rfl | rfl | rfl | rfl <;> rfl) (by omega) (by decide) (Nat.le_trans hbase ((Below.refl _ _).alloc (Nat.le_refl _) _).size) _ rfl ?_; intro g cap X hown hgr hbk hgl))
        have hBX := mkr_app (HOK.out.1.alloc _) (HOK.out.2.1.alloc _) hgr
        show mixD _ _ _ _ _ _ _
        have HCX := Lib.hid (hBX)
        have c3 := hBX.cell 3
        have f3 := hBX.frozen 3
        simp only [List.getElem?_toArray, List.getElem?_cons_succ, List.getElem?_cons_zero] at c3
        repeat (apply mixD_first; apply Exists.intro; refine ⟨fun m => ?_, HCX.out, ?_⟩; · (go_big_quiet_step (fail); exact wpQuiet_nil rfl))
        refine mixD_forced HCX.out ?_
        go_wp2_with fail
        show mixD _ _ _ _ _ _ _
        refine mixD_nil ?_
        have HF := Lib.hid (HH.out.1.add hgm HB5.out HOK.out.1 HOK.out.2.2 ((Below.refl _ _).alloc (Nat.le_refl _) _) hgr HH.out.2.2.2.2.1 (s := (⟨p, ndZ, true, vs⟩, .slice A4 nw c4)) hown (HL.out))
        clear hown hgr hbk hgl hBX c3 f3
        go_end0
        rw [HR3.out]
        exact MkrPost.one HF.out
  | false =>
    go_upto_region 1 with fail
    clear hV hnb
    go_wp2_with fail
    refine (HIN.out V HB1.out).mono ?_
    rintro e w2 ⟨rfl, hb2⟩
    have HB2 := Lib.hid (HB1.out.trans (hb2.mono HB1.out.size))
    have HN2 := Lib.hid (HN.out.below hb2 HN.out.lt)
    cases IN with
    | true =>
      clear hb2
      go_wp2_with fail
      go_end0
      have : R = none := by rw [← HR.out]; simp
      rw [this]
      exact MkrPost.none HH.out.1 HH.out.2.2.2.2.2 HB2.out
    | false =>
      have hB2 := HH.out.2.1.below HB2.out HH.out.2.1.lt
      have HM2 := Lib.hid hB2
      clear hb2 y0 y1 y2 y3 n0 n1 n2 n3 hB2
      go_upto_region 4 with fail
      have k0 : ∀ m : Held (Aft w2), (HeldW m).cell? ⟨gm, 0, none⟩ = some (.pointer (some ⟨bt, 0, none⟩)) := fun m => (Aft.cell m HM2.out.lt).trans (HM2.out.cell 0)
      have k1 : ∀ m : Held (Aft w2), (HeldW m).cell? ⟨nb, 0, none⟩ = some (.int .i64 yk) := fun m => (Aft.cell m HN2.out.lt).trans (HN2.out.cell 0)
      have k2 : ∀ m : Held (Aft w2), (HeldW m).cell? ⟨nb, 1, none⟩ = some (.int .i64 ym) := fun m => (Aft.cell m HN2.out.lt).trans (HN2.out.cell 1)
      have k3 : ∀ m : Held (Aft w2), (HeldW m).cell? ⟨nb, 2, none⟩ = some (.int .u32 yt) := fun m => (Aft.cell m HN2.out.lt).trans (HN2.out.cell 2)
      have k4 : ∀ m : Held (Aft w2), (HeldW m).cell? ⟨nb, 3, none⟩ = some (.string yd) := fun m => (Aft.cell m HN2.out.lt).trans (HN2.out.cell 3)
      have HGM := Lib.hid (fun m : Held (Aft w2) => HG1.out (HeldW m) (HB2.out.trans ((HeldW_spec m : Below w2.heap.size w2 (HeldW m)).mono HB2.out.size)))
      have HNM := Lib.hid (fun m : Held (Aft w2) => HNS.out (HeldW m))
      haveI := Aft.some w2
      by_cases hy0 : yk = 0
      · have ty : (yk != 0) = false := by simpa using hy0
        have HY := Lib.hid hy0
        clear hy0
        refine wp_region_class (Aft w2) (by kernel_rfl) (by kernel_rfl) (Aft.start w2) ?_
        repeat (go_big_quiet_step (fail))
        refine wpQuiet_nil ?_
        rintro _ ⟨nn, rfl⟩
        have HB3 := Lib.hid (HB2.out.trans ((HeldW_spec nn : Below w2.heap.size w2 (HeldW nn)).mono HB2.out.size))
        go_wp2_with fail
        go_end0
        have : R = none := by rw [← HR.out]; simp [HY.out]
        rw [this]
        exact MkrPost.none HH.out.1 HH.out.2.2.2.2.2 HB3.out
      · have ty : (yk != 0) = true := by simpa using hy0
        have HY := Lib.hid hy0
        clear hy0
        refine wp_region_class (Aft w2) (by kernel_rfl) (by kernel_rfl) (Aft.start w2) ?_
        repeat (go_big_quiet_step (first | with_reducible exact held_below Aft.keep (HGM.out _) | with_reducible exact held_below Aft.keep (HNM.out _)))
        refine wpQuiet_nil ?_
        rintro _ ⟨nn, rfl⟩
        obtain ⟨w3, hw3⟩ : ∃ w3, HeldW nn = w3 := ⟨_, rfl⟩
        have HB3 := Lib.hid (show Below w.heap.size w w3 from by rw [← hw3]; exact HB2.out.trans ((HeldW_spec nn : Below w2.heap.size w2 (HeldW nn)).mono HB2.out.size))
        have HN3 := Lib.hid (show Blk w3 nb 37 #[.int .i64 yk, .int .i64 ym, .int .u32 yt, .string yd] from by rw [← hw3]; exact HN2.out.below (HeldW_spec nn : Below w2.heap.size w2 (HeldW nn)) HN2.out.lt)
        rw [hw3]
        clear k0 k1 k2 k3 k4 HGM HNM hw3 this
        cases sm with
        | true =>
          go_wp2_with fail
          go_end0
          have : R = none := by rw [← HR.out]; have := HPS.out; simp at this; simp [this]
          rw [this]
          exact MkrPost.none HH.out.1 HH.out.2.2.2.2.2 HB3.out
        | false =>
          have HR3 := Lib.hid (show R = some ⟨p, ⟨yk, ym, yt, yd⟩, false, []⟩ by rw [← HR.out]; have := HPS.out; simp at this; simp [this, HY.out])
          go_upto_region 5 with fail
          have k0 : ∀ m : Held (fun W => Blk W gm 76 #[.pointer (some ⟨bt, 0, none⟩), .pointer (some ⟨bt2, 0, none⟩), .slice At nt ct, .slice Ao n co] ∧ Blk W nb 37 #[.int .i64 yk, .int .i64 ym, .int .u32 yt, .string yd]), (HeldW m).cell? ⟨gm, 3, none⟩ = some (.slice Ao n co) := fun m => Blk.cell (HeldW_spec m).1 3
          have k1 : ∀ m : Held (fun W => Blk W gm 76 #[.pointer (some ⟨bt, 0, none⟩), .pointer (some ⟨bt2, 0, none⟩), .slice At nt ct, .slice Ao n co] ∧ Blk W nb 37 #[.int .i64 yk, .int .i64 ym, .int .u32 yt, .string yd]), (HeldW m).cell? ⟨nb, 0, none⟩ = some (.int .i64 yk) := fun m => Blk.cell (HeldW_spec m).2 0
          have k2 : ∀ m : Held (fun W => Blk W gm 76 #[.pointer (some ⟨bt, 0, none⟩), .pointer (some ⟨bt2, 0, none⟩), .slice At nt ct, .slice Ao n co] ∧ Blk W nb 37 #[.int .i64 yk, .int .i64 ym, .int .u32 yt, .string yd]), (HeldW m).cell? ⟨nb, 1, none⟩ = some (.int .i64 ym) := fun m => Blk.cell (HeldW_spec m).2 1
          have k3 : ∀ m : Held (fun W => Blk W gm 76 #[.pointer (some ⟨bt, 0, none⟩), .pointer (some ⟨bt2, 0, none⟩), .slice At nt ct, .slice Ao n co] ∧ Blk W nb 37 #[.int .i64 yk, .int .i64 ym, .int .u32 yt, .string yd]), (HeldW m).cell? ⟨nb, 2, none⟩ = some (.int .u32 yt) := fun m => Blk.cell (HeldW_spec m).2 2
          have k4 : ∀ m : Held (fun W => Blk W gm 76 #[.pointer (some ⟨bt, 0, none⟩), .pointer (some ⟨bt2, 0, none⟩), .slice At nt ct, .slice Ao n co] ∧ Blk W nb 37 #[.int .i64 yk, .int .i64 ym, .int .u32 yt, .string yd]), (HeldW m).cell? ⟨nb, 3, none⟩ = some (.string yd) := fun m => Blk.cell (HeldW_spec m).2 3
          have HB4 := Lib.hid (show Below w.heap.size w w3.drew from HB3.out.drew)
          have HN4 := Lib.hid (show Blk w3.drew nb 37 #[.int .i64 yk, .int .i64 ym, .int .u32 yt, .string yd] from HN3.out.drew)
          have HC := Lib.hid (And.intro (HH.out.2.1.below HB4.out HH.out.2.1.lt) HN4.out)
          refine wp_region_mixD (fun W => Blk W gm 76 #[.pointer (some ⟨bt, 0, none⟩), .pointer (some ⟨bt2, 0, none⟩), .slice At nt ct, .slice Ao n co] ∧ Blk W nb 37 #[.int .i64 yk, .int .i64 ym, .int .u32 yt, .string yd]) [(0, true), (1, true), (2, true), (3, true), (4, true), (5, true), (6, true), (7, true), (8, false), (9, false), (10, true), (11, true), (12, false)] (by kernel_rfl) (by kernel_rfl) ?_
          simp only [pickP, List.filterMap_cons, List.filterMap_nil, List.getElem?_toArray, List.getElem?_cons_succ, List.getElem?_cons_zero, Option.map_some]
          repeat (apply mixD_first; apply Exists.intro; refine ⟨fun m => ?_, HC.out, ?_⟩; · (go_big_quiet_step (fail); exact wpQuiet_nil rfl))
          clear k0 k1 k2 k3 k4
          have hok := own_kept HH.out.2.2.2.1 HB4.out
          have HOK := Lib.hid (And.intro (HH.out.2.1.below HB4.out HH.out.2.1.lt) (And.intro hok (own_kept HH.out.2.2.1 HB4.out)))
          have hbase : base ≤ w3.drew.heap.size := Nat.le_trans HH.out.2.2.2.2.2 HB4.out.size
          clear hok
          refine mixD_forced HC.out ?_
          go_wp2_with fail
          show mixD _ _ _ _ _ _ _
          have HCA := Lib.hid (And.intro (HOK.out.1.alloc (.cells #[.string p, .int .i64 yk, .int .i64 ym, .int .u32 yt, .string yd, .bool false, .slice none 0 0] 40)) (HN4.out.alloc (.cells #[.string p, .int .i64 yk, .int .i64 ym, .int .u32 yt, .string yd, .bool false, .slice none 0 0] 40)))
          refine mixD_forced HCA.out ?_
          go_wp2_with (at_builtin; go_loud (refine wpList_app rfl _ _ 31 rfl base 40 (.agg #[.string ⟨#[]⟩, .int .i64 0, .int .i64 0, .int .u32 0, .string ⟨#[]⟩, .bool false, .slice none 0 0]) 7 88 Tryz.underlying31 infoSt rfl (by decide) (.slice Ao n co) n _ rfl (HOK.out.2.1.alloc _) w3.drew.heap.size 1 #[.string p, .int .i64 yk, .int .i64 ym, .int .u32 yt, .string yd, .bool false, .slice none 0 0] 40 rfl (Blk.new _ _ _) rfl (by intro u hu; simp at hu; rcases hu with rfl | rfl | rfl | rfl | rfl | rfl | rfl <;> rfl) (by omega) (by decide) (Nat.le_trans hbase ((Below.refl _ _).alloc (Nat.le_refl _) _).size) _ rfl ?_; intro g cap X hown hgr hbk hgl))
          have hBX := mkr_app (HOK.out.1.alloc _) (HOK.out.2.1.alloc _) hgr
          show mixD _ _ _ _ _ _ _
          have HCX := Lib.hid (And.intro hBX (mkr_appN (HN4.out.alloc _) (HOK.out.2.1.alloc _) hgr))
          have c3 := hBX.cell 3
          have f3 := hBX.frozen 3
          simp only [List.getElem?_toArray, List.getElem?_cons_succ, List.getElem?_cons_zero] at c3
          repeat (apply mixD_first; apply Exists.intro; refine ⟨fun m => ?_, HCX.out, ?_⟩; · (go_big_quiet_step (fail); exact wpQuiet_nil rfl))
          refine mixD_forced HCX.out ?_
          go_wp2_with fail
          show mixD _ _ _ _ _ _ _
          refine mixD_nil ?_
          have HF := Lib.hid (HH.out.1.add hgm HB4.out HOK.out.1 HOK.out.2.2 ((Below.refl _ _).alloc (Nat.le_refl _) _) hgr HH.out.2.2.2.2.1 (s := (⟨p, ⟨yk, ym, yt, yd⟩, false, []⟩, .slice none 0 0)) hown (Lies.nil _ _ _ _))
          clear hown hgr hbk hgl hBX c3 f3
          go_end0
          rw [HR3.out]
          exact MkrPost.one HF.out
end Go.Proofs.YtmpgmgjokliceaaGreatDoor
/- Paths with marks: a map of string to bool, put by put; plainly. -/
set_option linter.unusedVariables false
set_option linter.unusedSimpArgs false
namespace Sw
open Go
def setE (X : List SbE) (es : List SbE) : List SbE := es.foldl (fun X e => putN ordS e.1 e.2 X) X
theorem setE_app (X : List SbE) (a b : List SbE) : setE X (a ++ b) = setE (setE X a) b := by unfold setE; rw [List.foldl_append]
theorem setE_one (X : List SbE) (es : List SbE) (e : SbE) : setE X (es ++ [e]) = putN ordS e.1 e.2 (setE X es) := by rw [setE_app]; rfl
theorem setE_up : ∀ (es : List SbE) (X : List SbE), Up ordS X → Up ordS (setE X es)
  | [], _, h => h
  | e :: es, X, h => setE_up es _ (put_up ordS_ord e.1 e.2 X h)
theorem setE_len : ∀ (es : List SbE) (X : List SbE), (setE X es).length ≤ X.length + es.length
  | [], X => Nat.le_refl _
  | e :: es, X => by
    have h1 := setE_len es (putN ordS e.1 e.2 X)
    have h2 := put_len (c := ordS) e.1 e.2 X
    have h3 : setE X (e :: es) = setE (putN ordS e.1 e.2 X) es := rfl
    rw [h3, List.length_cons]
    split at h2 <;> omega
theorem putB_iff {X : List SbE} (hu : Up ordS X) (p : ByteArray) (b : Bool) (e : SbE) : e ∈ putN ordS p b X ↔ e = (p, b) ∨ (e ∈ X ∧ ¬ e.1 = p) := by
  rw [put_filter ordS_ord p b X hu]
  simp only [List.mem_append, List.mem_filter, List.mem_cons, decide_eq_true_eq]
  have h3 := ordS_three e.1 p
  constructor
  · rintro (⟨h, hk⟩ | rfl | ⟨h, hk⟩)
    · exact .inr ⟨h, fun e' => by rw [e', ordS_refl] at hk; omega⟩
    · exact .inl rfl
    · exact .inr ⟨h, fun e' => by rw [e', ordS_refl] at hk; omega⟩
  · rintro (rfl | ⟨h, hk⟩)
    · exact .inr (.inl rfl)
    · rcases h3 with h3 | h3 | h3
      · exact .inl ⟨h, by omega⟩
      · exact absurd (ordS_zero h3) hk
      · exact .inr (.inr ⟨h, by omega⟩)
/-- paths put with one mark -/
theorem setE_iff (b : Bool) : ∀ (ps : List ByteArray) (X : List SbE), Up ordS X → ∀ e : SbE, e ∈ setE X (ps.map fun p => (p, b)) ↔ (e.2 = b ∧ e.1 ∈ ps) ∨ (e ∈ X ∧ ¬ e.1 ∈ ps)
  | [], X, _, e => by simp [setE]
  | p :: ps, X, hu, e => by
    have h := setE_iff b ps (putN ordS p b X) (put_up ordS_ord p b X hu) e
    have h3 : setE X ((p :: ps).map fun p => (p, b)) = setE (putN ordS p b X) (ps.map fun p => (p, b)) := rfl
    rw [h3, h, putB_iff hu]
    obtain ⟨q, c⟩ := e
    simp only [List.mem_cons, Prod.mk.injEq]
    by_cases hq : q ∈ ps
    · simp [hq]
    · by_cases hqp : q = p
      · simp [hq, hqp]
        subst hqp
        simp [hq]
      · simp [hq, hqp]
end Sw
namespace Go.Proofs.YtmpgmgjokliceaaGreatDoor
open Go Go.RowKit
open Sw
/-- all paths, and which are tops -/
def flagsN (xs ys : List NE) (tops : List ByteArray) : List SbE := setE (setE (setE [] ((xs.map Prod.fst).map fun p => (p, false))) ((ys.map Prod.fst).map fun p => (p, false))) (tops.map fun p => (p, true))
theorem isTop_iff (tops : List ByteArray) (p : ByteArray) : isTop tops p = true ↔ p ∈ tops := by
  unfold isTop
  rw [List.any_eq_true]
  exact ⟨fun ⟨t, ht, e⟩ => by have : t = p := by simpa using e
                              rw [← this]; exact ht, fun h => ⟨p, h, by simp⟩⟩
theorem flagsN_up (xs ys : List NE) (tops : List ByteArray) : Up ordS (flagsN xs ys tops) := setE_up _ _ (setE_up _ _ (setE_up _ _ List.Pairwise.nil))
theorem flagsN_mem (xs ys : List NE) (tops : List ByteArray) (e : SbE) : e ∈ flagsN xs ys tops ↔ e.1 ∈ xs.map Prod.fst ++ ys.map Prod.fst ++ tops ∧ e.2 = isTop tops e.1 := by
  unfold flagsN
  rw [setE_iff true _ _ (setE_up _ _ (setE_up _ _ List.Pairwise.nil)), setE_iff false _ _ (setE_up _ _ List.Pairwise.nil), setE_iff false _ _ List.Pairwise.nil]
  obtain ⟨p, b⟩ := e
  simp only [List.mem_append, List.not_mem_nil, false_and, or_false]
  have hi := isTop_iff tops p
  by_cases hp : p ∈ tops
  · have := hi.2 hp
    simp [hp, this]
  · have : isTop tops p = false := by
      cases hc : isTop tops p with
      | false => rfl
      | true => exact absurd (hi.1 hc) hp
    simp only [hp, this, not_false_eq_true, and_true, and_false, false_or, or_false]
    by_cases h2 : p ∈ ys.map Prod.fst
    · simp [h2]
    · by_cases h1 : p ∈ xs.map Prod.fst
      · simp [h1, h2]
      · simp [h1, h2]
theorem flagsN_eq (xs ys : List NE) (tops : List ByteArray) : flagsN xs ys tops = (pathsN xs ys tops).map fun p => (p, isTop tops p) := by
  have h1 : flagsN xs ys tops = ((flagsN xs ys tops).map Prod.fst).map fun p => (p, isTop tops p) := by
    rw [List.map_map]
    conv => lhs; rw [← List.map_id (flagsN xs ys tops)]
    refine List.map_congr_left fun e he => ?_
    have := ((flagsN_mem xs ys tops e).1 he).2
    obtain ⟨p, b⟩ := e
    simp only [id, Function.comp] at this ⊢
    rw [this]
  have h2 : pathsN xs ys tops = (flagsN xs ys tops).map Prod.fst := pathsS_eq (rise_keys (flagsN_up xs ys tops)) (fun q => by
    rw [List.mem_map]
    constructor
    · rintro ⟨e, he, rfl⟩
      exact ((flagsN_mem xs ys tops e).1 he).1
    · intro h
      exact ⟨(q, isTop tops q), (flagsN_mem xs ys tops _).2 ⟨h, rfl⟩, rfl⟩)
  rw [h2]
  exact h1
end Go.Proofs.YtmpgmgjokliceaaGreatDoor
/- slices.Clone of a row of sorted.entry[string,bool]: the same elements, in memory of the call's own. -/
set_option linter.unusedVariables false
set_option linter.unusedSimpArgs false
namespace Go.Proofs.YtmpgmgjokliceaaGreatDoor
open Go Go.RowKit
open Sw
theorem infoESB : (Tryz.prog.info? 152).map (fun i => (i.zero, i.size, i.bytes)) = some (some (.agg #[.string ⟨#[]⟩, .bool false]), 2, 24) := by kernel_rfl
set_option maxRecDepth 100000 in
set_option maxHeartbeats 2000000 in
theorem slCloneSB_any {α : Type} (E : α → List Value) (hE : ∀ x, (E x).length = 2) (hE1 : ∀ x, ∀ u ∈ E x, u.oneCell' = true) (w : World) (v : Value) (l : List α) (h : SlV w 2 E v l) (hl : l.length ≤ 1000000) :
    Calls Tryz.prog 91 #[v] w fun e w' => ∃ v', e = .returned v' ∧ w'.ownsRow w.heap.size 152 2 v' l.length (l.flatMap E) ∧ Below w.heap.size w w' := by
  obtain ⟨A, c, rfl, hc1, hc2, hsl⟩ := h
  cases A with
  | none =>
    have h0 : l = [] := by
      cases l with
      | nil => rfl
      | cons a l => obtain ⟨b, off, h, _⟩ := hsl (by simp); cases h
    subst h0
    have hno := World.ownsRow_nil w w.heap.size 152 2
    have HN := Lib.hid hno; clear hno hsl
    have hnl : ∀ W n c, (binOp .eql 149 (.slice none n c) (.slice none 0 0)).run Tryz.prog W = .ok (.bool true) W := fun W n c => Lib.run_eql_slice_nil W 149 152 none n c 0 0 Tryz.underlying149
    go_enter Tryz.func91, Tryz.ntmps91
    go_wp2_with fail
    go_ret
    exact ⟨_, rfl, HN.out, Below.refl _ _⟩
  | some a =>
    obtain ⟨i0, hi, hz0, hz1, hz2⟩ := info_parts infoESB
    have hlen : (l.flatMap E).length = l.length * 2 := flat_len hE l
    have hone : ∀ u ∈ l.flatMap E, u.oneCell' = true := fun u hu => by
      rw [List.mem_flatMap] at hu
      obtain ⟨x, _, hx⟩ := hu
      exact hE1 x u hx
    have hnews : ∀ j u, (l.flatMap E)[j]? = some u → w.cell? (a.add j) = some u := fun j u hj => by
      have hjl := (List.getElem?_eq_some_iff.1 hj).1
      rw [hlen] at hjl
      obtain ⟨b, off, hA, _, hcs⟩ := hsl (by omega)
      rw [Option.some.inj hA, add_mk]
      have hq : j / 2 < l.length := by omega
      have hr : j % 2 < 2 := Nat.mod_lt _ (by omega)
      have hd : j / 2 * 2 + j % 2 = j := by omega
      have h1 := flat_get hE l (j / 2) hq (j % 2) hr
      rw [hd, hj] at h1
      have h2 := hcs (j / 2) hq (j % 2) hr
      rw [Nat.add_assoc, hd] at h2
      rw [h2, ← h1]
    have hnews1 : ∀ (o : Obj) j u, (l.flatMap E)[j]? = some u → (w.alloc o).cell? (a.add j) = some u := fun o j u hj => by
      have h1 := hnews j u hj
      have hlt := World.block_lt_of_cell? w _ h1
      rw [← h1]
      exact ((Below.refl w.heap.size w).alloc (Nat.le_refl _) o).cell hlt
    have hown := World.ownsRow_made (e := 152) (size := 2) (base := w.heap.size) w #[] 0 (Nat.le_refl _) (by decide) (by simp)
    have hbe : Below w.heap.size w (w.alloc (.cells #[] 152)) := (Below.refl _ _).alloc (Nat.le_refl _) _
    have HH := Lib.hid (And.intro hown hbe); clear hown hbe
    have HL := Lib.hid hlen; clear hlen
    have HO := Lib.hid hone; clear hone
    have HW := Lib.hid hnews1; clear hnews1 hnews
    have HI := Lib.hid (And.intro hi (And.intro hz0 (And.intro hz1 hz2))); clear hi hz0 hz1 hz2
    generalize l.flatMap E = xs at *
    generalize l.length = n at *
    have hnl : ∀ W n c, (binOp .eql 149 (.slice (some a) n c) (.slice none 0 0)).run Tryz.prog W = .ok (.bool false) W := fun W n c => Lib.run_eql_slice_nil W 149 152 (some a) n c 0 0 Tryz.underlying149
    go_enter Tryz.func91, Tryz.ntmps91
    go_wp2_with (at_builtin; refine wpList_append_own _ rfl _ _ 149 rfl w.heap.size 152 i0 (.agg #[.string ⟨#[]⟩, .bool false]) 2 24 Tryz.underlying149 HI.out.1 HI.out.2.1 HI.out.2.2.1 HI.out.2.2.2 rfl (by decide) _ _ _ rfl HH.out.1 a n c xs rfl HL.out (HW.out _) HO.out (by unfold maxLen; omega) (by omega) (by simp) ?_; intro v' w1 hown1 hgrow1 hnil1)
    have HP := Lib.hid (And.intro hown1 hgrow1); clear hown1 hgrow1 hnil1
    go_wp2_with fail
    go_ret
    refine ⟨_, rfl, ?_, HH.out.2.grown HP.out.2 (by simp) (fun k hk => ?_)⟩
    · have := HP.out.1
      simpa using this
    · have : w.heap.size = k := Option.some.inj hk
      omega
end Go.Proofs.YtmpgmgjokliceaaGreatDoor
/- slices.BinarySearchFunc over a row of sorted.entry[string,bool], as sorted.Map's find calls it. -/
set_option linter.unusedVariables false
set_option linter.unusedSimpArgs false
namespace Go.Proofs.YtmpgmgjokliceaaGreatDoor
open Go Go.RowKit
open Sw
def SrchPostSB {α : Type} (f : α → Int) (l : List α) (w : World) (e : Ending) (w' : World) : Prop :=
  ∃ i : Nat, i ≤ l.length ∧ (∀ m (h : m < l.length), m < i → f l[m] < 0) ∧ (∀ m (h : m < l.length), i ≤ m → 0 ≤ f l[m]) ∧
    e = .returned (.tuple #[.int .i64 i, .bool (if h : i < l.length then decide (f l[i] = 0) else false)]) ∧ Below w.heap.size w w'
set_option maxRecDepth 100000 in
set_option maxHeartbeats 4000000 in
theorem slSearchSB_any {α : Type} (E : α → List Value) (hE : ∀ x, (E x).length = 2) (f : α → Int) (w : World) (A : Option Addr) (n c g : Nat) (l : List α) (kv : Value) (hl : l.length = n) (hn : n ≤ 1000000) (hsl : SlOf w 2 E A l)
    (hmono : ∀ a b (ha : a < l.length) (hb : b < l.length), a ≤ b → f l[b] < 0 → f l[a] < 0)
    (hcall : ∀ W x, x ∈ l → Below w.heap.size w W → Calls Tryz.prog 197 #[.agg (E x).toArray, kv, .pointer (some ⟨g, 0, none⟩)] W fun e w' => e = .returned (.int .i64 (f x)) ∧ Below W.heap.size W w') :
    Calls Tryz.prog 196 #[.slice A n c, kv, .func (.func 197) #[] #[.pointer (some ⟨g, 0, none⟩)]] w (SrchPostSB f l w) := by
  have HS := Lib.hid hsl; clear hsl
  have HL := Lib.hid hl; clear hl
  have HM := Lib.hid hmono; clear hmono
  have HC := Lib.hid hcall; clear hcall
  have HE := Lib.hid hE; clear hE
  go_enter Tryz.func196, Tryz.ntmps196
  go_wp2_with fail
  go_loopw [9, 10] (fun iv jv wr => ∃ i j : Nat, i ≤ j ∧ j ≤ n ∧ iv = .int .i64 i ∧ jv = .int .i64 j ∧ (∀ m (h : m < l.length), m < i → f l[m] < 0) ∧ (∀ m (h : m < l.length), j ≤ m → 0 ≤ f l[m]) ∧ Below w.heap.size w wr) (fun iv jv _ => (intOf jv - intOf iv).toNat)
  case atStart => exact ⟨0, n, Nat.zero_le _, Nat.le_refl _, rfl, rfl, fun m h h' => by omega, fun m h h' => by have := HL.out; omega, Below.refl _ _⟩
  case round =>
    obtain ⟨i, j, hij, hjn, rfl, rfl, hlo, hhi, hbr⟩ := hrel
    have HLO := Lib.hid hlo; clear hlo
    have HHI := Lib.hid hhi; clear hhi
    by_cases hlt : i < j
    · have hjL : j ≤ l.length := by have := HL.out; omega
      obtain ⟨h, hh⟩ : ∃ h : Nat, ((i : Int) + j) / 2 = h := ⟨(i + j) / 2, by omega⟩
      have hih : i ≤ h := by omega
      have hhj : h < j := by omega
      have hhL : h < l.length := by omega
      obtain ⟨b, off, rfl, hbb, _⟩ := (HS.out.below hbr (Nat.le_refl _)) (by omega)
      have HR := Lib.hid ((HS.out.below hbr (Nat.le_refl _)).range HE.out h hhL)
      have HF := Lib.hid (HC.out wr l[h] (List.getElem_mem hhL) hbr)
      have HX := Lib.hid (HE.out l[h])
      have HLO2 := Lib.hid (fun (hf : f l[h] < 0) m (hm : m < l.length) (hmh : m < h + 1) => (HM.out m h hm hhL (by omega) hf : f l[m] < 0))
      have HHI2 := Lib.hid (fun (hf : ¬ f l[h] < 0) m (hm : m < l.length) (hmh : h ≤ m) => (by
        refine Int.not_lt.1 fun hx => hf ?_
        exact HM.out h m hhL hm hmh hx : 0 ≤ f l[m]))
      generalize f l[h] = fv at *
      generalize E l[h] = ev at *
      have q1 : (i : Int) + j ≤ 2000000 := by omega
      have q2 : (h : Int) < n := by omega
      go_wp2_with (refine wpList_load_mid rfl 152 (.tmp 27) rfl b (off + h * 2) rfl ev _ HR.out Tryz.underlying152 rfl (by rw [HX.out]; kernel_rfl) ?_)
      refine HF.out.mono ?_
      rintro e w2 ⟨rfl, hb2⟩
      have hb3 := hbr.trans (hb2.mono hbr.size)
      clear HR HF
      by_cases hf : fv < 0
      · have H1 := Lib.hid (HLO2.out hf)
        go_wp2_with fail
        go_roundw
        case rel => exact ⟨h + 1, j, by omega, hjn, by go_num, rfl, H1.out, HHI.out, hb3⟩
        case measure => simp [intOf]; omega
      · have H1 := Lib.hid (HHI2.out (by omega))
        go_wp2_with fail
        go_roundw
        case rel => exact ⟨i, h, hih, by omega, rfl, by go_num, HLO.out, H1.out, hb3⟩
        case measure => simp [intOf]; omega
    · obtain rfl : i = j := by omega
      clear hij hlt
      by_cases hin : i < n
      · have hiL : i < l.length := by have := HL.out; omega
        obtain ⟨b, off, rfl, hbb, _⟩ := (HS.out.below hbr (Nat.le_refl _)) (by omega)
        have HR := Lib.hid ((HS.out.below hbr (Nat.le_refl _)).range HE.out i hiL)
        have HF := Lib.hid (HC.out wr l[i] (List.getElem_mem hiL) hbr)
        have HX := Lib.hid (HE.out l[i])
        have HP := Lib.hid (fun w' (hb : Below w.heap.size w w') => (⟨i, by omega, HLO.out, HHI.out, by rw [dif_pos hiL], hb⟩ : SrchPostSB f l w (.returned (.tuple #[.int .i64 i, .bool (decide (f l[i] = 0))])) w'))
        generalize f l[i] = fv at *
        generalize E l[i] = ev at *
        have q2 : (i : Int) < n := by omega
        go_wp2_with (refine wpList_load_row_g rfl 152 (.tmp 43) rfl b (off + i * 2) rfl ev _ HR.out Tryz.underlying152 rfl (by rw [HX.out]; kernel_rfl) ?_)
        refine HF.out.mono ?_
        rintro e w2 ⟨rfl, hb2⟩
        have hb3 := hbr.trans (hb2.mono hbr.size)
        have HQ := Lib.hid (HP.out w2 hb3)
        have hbq : (fv == 0) = decide (fv = 0) := rfl
        go_wp2_with fail
        go_ret2
        exact HQ.out
      · obtain rfl : i = n := by omega
        have HP := Lib.hid (fun w' (hb : Below w.heap.size w w') => (⟨i, by have := HL.out; omega, HLO.out, HHI.out, by rw [dif_neg (by have := HL.out; omega)], hb⟩ : SrchPostSB f l w (.returned (.tuple #[.int .i64 i, .bool false])) w'))
        go_wp2_with fail
        go_ret2
        exact HP.out _ hbr
end Go.Proofs.YtmpgmgjokliceaaGreatDoor
/- sorted.Map[string,bool]: what a map holds; find. -/
set_option linter.unusedVariables false
set_option linter.unusedSimpArgs false
namespace Go.Proofs.YtmpgmgjokliceaaGreatDoor
open Go Go.RowKit
open Sw
/-- an entry's cells -/
def eCSB (e : ByteArray × Bool) : List Value := [.string e.1, .bool e.2]
theorem eCSB_len (e : ByteArray × Bool) : (eCSB e).length = 2 := rfl
theorem eCSB_one (e : ByteArray × Bool) : ∀ u ∈ eCSB e, u.oneCell' = true := by
  intro u hu
  simp only [eCSB, List.mem_cons, List.mem_append, List.not_mem_nil, or_false] at hu
  rcases hu with rfl | rfl <;> rfl
abbrev ordFSB : Value := .func (.func 79) #[] #[]
/-- the map in block bm holds the entries xs -/
structure SMapSB (w : World) (bm : Nat) (xs : List (ByteArray × Bool)) : Prop where
  row : ∃ v, Blk w bm 154 #[ordFSB, v] ∧ w.ownsRow 0 152 2 v xs.length (xs.flatMap eCSB)
  up : Up ordS xs
  ok : ∀ e ∈ xs, okS e.1
set_option maxRecDepth 100000 in
set_option maxHeartbeats 2000000 in
theorem find1SB_any (w : World) (g bm : Nat) (e : ByteArray × Bool) (k : ByteArray) (he : okS e.1) (hk : okS k) (hg : w.cell? ⟨g, 0, none⟩ = some (.pointer (some ⟨bm, 0, none⟩))) (hm : w.cell? ⟨bm, 0, none⟩ = some ordFSB) :
    Calls Tryz.prog 197 #[.agg (eCSB e).toArray, Value.string k, .pointer (some ⟨g, 0, none⟩)] w fun r w' => r = .returned (.int .i64 (ordS e.1 k)) ∧ Below w.heap.size w w' := by
  have HO := Lib.hid (fun W => orderS_any W e.1 k he hk)
  have hB := Blk.new w 152 (eCSB e).toArray
  have hb1 := (Below.refl w.heap.size w).alloc (Nat.le_refl _) (.cells (eCSB e).toArray 152)
  have hgl := World.block_lt_of_cell? w _ hg
  have hml := World.block_lt_of_cell? w _ hm
  have hg1 := (hb1.cell (p := ⟨g, 0, none⟩) hgl).trans hg
  have hm1 := (hb1.cell (p := ⟨bm, 0, none⟩) hml).trans hm
  have hlt := hB.lt
  have hk0 : (w.alloc (.cells (eCSB e).toArray 152)).cell? ⟨w.heap.size, 0, none⟩ = some (Value.string e.1) := hB.cell 0
  clear hg hm hB
  generalize ordS e.1 k = r at *
  have l1 : ∀ m : Held (Aft (w.alloc (.cells (eCSB e).toArray 152))), (HeldW m).cell? ⟨g, 0, none⟩ = some (.pointer (some ⟨bm, 0, none⟩)) := fun m => (Aft.cell m (p := ⟨g, 0, none⟩) (Nat.lt_of_lt_of_le hgl hb1.size)).trans hg1
  have l2 : ∀ m : Held (Aft (w.alloc (.cells (eCSB e).toArray 152))), (HeldW m).cell? ⟨bm, 0, none⟩ = some ordFSB := fun m => (Aft.cell m (p := ⟨bm, 0, none⟩) (Nat.lt_of_lt_of_le hml hb1.size)).trans hm1
  have l3 : ∀ m : Held (Aft (w.alloc (.cells (eCSB e).toArray 152))), (HeldW m).cell? ⟨w.heap.size, 0, none⟩ = some (Value.string e.1) := fun m => (Aft.cell m (p := ⟨w.heap.size, 0, none⟩) hlt).trans hk0
  have HB1 := Lib.hid hb1; clear hb1 hg1 hm1 hk0
  haveI := Aft.some (w.alloc (.cells (eCSB e).toArray 152))
  generalize (eCSB e).toArray = ec at *
  go_enter Tryz.func197, Tryz.ntmps197
  go_wp2_with fail
  refine wp_region_class (Aft (w.alloc (.cells ec 152))) (by kernel_rfl) (by kernel_rfl) (Aft.start _) ?_
  repeat (go_big_quiet_step (with_reducible exact held_below Aft.keep (HO.out _)))
  refine wpQuiet_nil ?_
  rintro _ ⟨nn, rfl⟩
  have HW : Hid (Below (w.alloc (.cells ec 152)).heap.size (w.alloc (.cells ec 152)) (HeldW nn)) := Lib.hid (HeldW_spec nn)
  go_wp2_with fail
  go_ret
  exact ⟨rfl, HB1.out.trans (HW.out.mono HB1.out.size)⟩
end Go.Proofs.YtmpgmgjokliceaaGreatDoor
