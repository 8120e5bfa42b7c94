/- Several texts, joined for the limit of sixty files; each one opens with its own comment. -/
import Derived.Test.YtjcbjocgachpjaaGreatDoorJoin21
/- sorted.Join over string, swingle/api.Print: the iterator. -/
set_option linter.unusedVariables false
set_option linter.unusedSimpArgs false
namespace Go.Proofs.YtjcbjocgachpjaaGreatDoor
open Go Go.RowKit Go.Shelf
open Sw
attribute [local go_sem] Oper.semAt_some
/-- the blocks that Join's iterator reads -/
def JoinK (b1 b2 b3 : Nat) (v1 v2 : Value) (g : Nat) : Prop := g = b1 ∨ g = b2 ∨ g = b3 ∨ v1.ownBlock = some g ∨ v2.ownBlock = some g
/-- where the iterator stands -/
def JoinAtSP (J : List (ByteArray × Option Pr × Option Pr) → World → Prop) (b1 b2 b3 : Nat) (v1 v2 : Value) (xs ys : List (ByteArray × Pr)) (W : World) (xv yv : Value) (wr : World) : Prop :=
  ∃ pre x y, pre ++ joinL ordS x y = joinL ordS xs ys ∧ Lies wr 100 6 eCSP xv x ∧ Lies wr 100 6 eCSP yv y ∧ (∀ g, xv.ownBlock = some g → v1.ownBlock = some g) ∧ (∀ g, yv.ownBlock = some g → v2.ownBlock = some g) ∧
    (∀ e ∈ x, e ∈ xs) ∧ (∀ e ∈ y, e ∈ ys) ∧ x.length ≤ xs.length ∧ y.length ≤ ys.length ∧ J pre wr ∧ KeepP (JoinK b1 b2 b3 v1 v2) W wr
theorem JoinAtSP.drewN {J : List (ByteArray × Option Pr × Option Pr) → World → Prop} {b1 b2 b3 : Nat} {v1 v2 : Value} {xs ys : List (ByteArray × Pr)} {W wr : World} {xv yv : Value} (h : JoinAtSP J b1 b2 b3 v1 v2 xs ys W xv yv wr) {B : Nat} (hJ : AbM (fun _ => False) B J) (m : Nat) : JoinAtSP J b1 b2 b3 v1 v2 xs ys W xv yv (wr.drewN m) := by
  obtain ⟨pre, x, y, h1, hx, hy, hxb, hyb, hxm, hym, hxl, hyl, hJs, hK⟩ := h
  have hb := below_drewN (Below.refl wr.heap.size wr) m
  exact ⟨pre, x, y, h1, hx.below hb, hy.below hb, hxb, hyb, hxm, hym, hxl, hyl, hJ _ _ _ none hJs (grown_below hb) (fun r h => by cases h), ⟨Nat.le_trans hK.size hb.size, fun g hg => hK.same g hg⟩⟩
set_option maxRecDepth 100000 in
set_option maxHeartbeats 8000000 in
theorem joinSP_tells (n : Nat) (hn : 1 ≤ n) (b1 b2 b3 : Nat) (v1 v2 : Value) (xs ys : List (ByteArray × Pr)) (w : World) (hb1 : Blk w b1 94 #[v1]) (hb2 : Blk w b2 94 #[v2]) (hb3 : Blk w b3 90 #[ordFSP])
    (hL1 : Lies w 100 6 eCSP v1 xs) (hL2 : Lies w 100 6 eCSP v2 ys) (hv1 : ∀ g, v1.ownBlock = some g → g < w.heap.size) (hv2 : ∀ g, v2.ownBlock = some g → g < w.heap.size) (hl1 : xs.length ≤ 1000000) (hl2 : ys.length ≤ 1000000) (k1 : ∀ e ∈ xs, okS e.1) (k2 : ∀ e ∈ ys, okS e.1) :
    SeqTells (fun _ => False) Fence.wide n Tryz.prog 43 #[.pointer (some ⟨b1, 0, none⟩), .pointer (some ⟨b2, 0, none⟩), .pointer (some ⟨b3, 0, none⟩)] (fun x : ByteArray × Option Pr × Option Pr => #[Value.string x.1, .agg (pCSP x.2)]) (KeepP (JoinK b1 b2 b3 v1 v2)) (fun zs => zs = joinL ordS xs ys) (fun pre => pre <+: joinL ordS xs ys) (fun pre => pre <+: joinL ordS xs ys) w := fun l J Jx W hW hJ hJx hY hJ0 => by
  have B1 := hb1.below hW hb1.lt
  have B2 := hb2.below hW hb2.lt
  have B3 := hb3.below hW hb3.lt
  have hK : ∀ g, JoinK b1 b2 b3 v1 v2 g → g < W.heap.size := fun g hg => by
    have := hW.size
    rcases hg with rfl | rfl | rfl | h | h
    · exact B1.lt
    · exact B2.lt
    · exact B3.lt
    · have := hv1 g h; omega
    · have := hv2 g h; omega
  have c1 := B1.cell 0
  have c2 := B2.cell 0
  simp at c1 c2
  have HST := Lib.hid (show JoinAtSP J b1 b2 b3 v1 v2 xs ys W v1 v2 W from ⟨[], xs, ys, rfl, hL1.below hW, hL2.below hW, fun _ h => h, fun _ h => h, fun _ h => h, fun _ h => h, Nat.le_refl _, Nat.le_refl _, hJ0, KeepP.refl _ _⟩)
  have HB := Lib.hid (And.intro B1 (And.intro B2 (And.intro B3 hK)))
  have HJ := Lib.hid hJ; clear hJ
  have HY := Lib.hid hY; clear hY
  have HK := Lib.hid (And.intro k1 k2); clear k1 k2
  have e1 := hL1
  have e2 := hL2
  obtain ⟨A1, d1, rfl, hd1, hm1, _⟩ := e1
  obtain ⟨A2, d2, rfl, hd2, hm2, _⟩ := e2
  clear hJx B1 B2 B3 hK hb1 hb2 hb3 hL1 hL2 hv1 hv2 hJ0
  have HLN := Lib.hid (And.intro hl1 hl2); clear hl1 hl2
  refine callsIn_of_wp Tryz.func43 rfl trivial ?_ rfl
  simp only [Tryz.ntmps43, List.size_toArray, List.length_cons, List.length_nil, Nat.reduceAdd, Nat.reduceSub, Array.replicate_succ, Array.replicate_zero, List.push_toArray, List.append_toArray, List.nil_append, List.cons_append]
  gi_wp2
  refine wpIn_wide.2 ?_
  go_quiet (fail)
  go_wp2_with fail
  obtain ⟨W1, hW1⟩ : ∃ W1, W1 = W.drewN nq := ⟨_, rfl⟩
  have HSQ := Lib.hid (show JoinAtSP J b1 b2 b3 (.slice A1 xs.length d1) (.slice A2 ys.length d2) xs ys W (.slice A1 xs.length d1) (.slice A2 ys.length d2) (W.drewN nq) from HST.out.drewN HJ.out nq)
  gi_wp2
  gi_loopw [5, 6] (fun xv yv wr => JoinAtSP J b1 b2 b3 (.slice A1 xs.length d1) (.slice A2 ys.length d2) xs ys W xv yv wr) (fun xv yv _ => slLenJ xv + slLenJ yv)
  case atStart => exact HSQ.out
  case round =>
    obtain ⟨pre, x, y, hJ, hx, hy, hxb, hyb, hxm, hym, hxl, hyl, hJs, hK⟩ := hrel
    have HR := Lib.hid (And.intro hJ (And.intro hxb (And.intro hyb (And.intro hxm (And.intro hym (And.intro hJs hK))))))
    have HLX := Lib.hid hx
    have HLY := Lib.hid hy
    have hxs := hx.slv eCSP_len
    have hys := hy.slv eCSP_len
    obtain ⟨Ax, dx, rfl, hdx, hmx, hsx⟩ := hxs
    obtain ⟨Ay, dy, rfl, hdy, hmy, hsy⟩ := hys
    have B1 := HB.out.1.keptP hK (.inl rfl)
    have B2 := HB.out.2.1.keptP hK (.inr (.inl rfl))
    have B3 := HB.out.2.2.1.keptP hK (.inr (.inr (.inl rfl)))
    have c3 := B3.cell 0
    simp at c3
    clear hJ hxb hyb hxm hym hJs hK hx hy B1 B2
    by_cases h0 : 0 < x.length + y.length
    · obtain ⟨T, hT⟩ : ∃ T, wr.heap.size = T := ⟨_, rfl⟩
      have hba := (Below.refl wr.heap.size wr).alloc (Nat.le_refl _) (.cells (pCSP (none, none)) 59)
      have HSD := Lib.hid (srtSideSP_any (wr.alloc (.cells (pCSP (none, none)) 59)) Ax Ay x.length y.length dx dy x y rfl rfl (hsx.below hba (Nat.le_refl _)) (hsy.below hba (Nat.le_refl _)) (fun e he => HK.out.1 e (HR.out.2.2.2.1 e he)) (fun e he => HK.out.2 e (HR.out.2.2.2.2.1 e he)))
      have c3' := (hba.cell (p := ⟨b3, 0, none⟩) B3.lt).trans c3
      have hPB := Blk.new wr 59 (pCSP (none, none))
      have HBA := Lib.hid (And.intro hba hPB); clear hba hPB B3
      rcases join_cases (c := ordS) x y h0 with ⟨hs, a, x', rfl, hj⟩ | ⟨hs, b, y', rfl, hj⟩ | ⟨hs, a, x', b, y', rfl, rfl, hj⟩
      · have HJX := Lib.hid hj; clear hj
        obtain ⟨s, hs'⟩ : ∃ s, sideL ordS (a :: x') y = s := ⟨_, rfl⟩
        rw [hs'] at hs HSD
        have p1 : (0 : Int) < ((a :: x').length : Nat) := by simp only [List.length_cons]; omega
        have p2 : 0 < (a :: x').length := by simp only [List.length_cons]; omega
        obtain ⟨g1, o1, rfl, hg1, hcx⟩ := hsx (by simp)
        have q0 := hcx 0 (by simp) 0 (by decide)
        have q1 := hcx 0 (by simp) 1 (by decide)
        have q1_2 := hcx 0 (by simp) 2 (by decide)
        have q1_3 := hcx 0 (by simp) 3 (by decide)
        have q1_4 := hcx 0 (by simp) 4 (by decide)
        have q1_5 := hcx 0 (by simp) 5 (by decide)
        simp only [eCSP, List.getElem?_cons_zero, List.getElem?_cons_succ, List.getElem_cons_zero, Nat.zero_mul, Nat.add_zero, Nat.zero_add] at q0 q1 q1_2 q1_3 q1_4 q1_5
        have n1 : (1 : Int) ≤ ((a :: x').length : Nat) := by omega
        have n2 : 1 ≤ (a :: x').length := by omega
        obtain ⟨T1, hsl, hT1a, hT1b⟩ := slice_from (P := Tryz.prog) 94 100 6 Tryz.underlying94 (by kernel_rfl) Tryz.sizeOf100 g1 o1 (a :: x').length dx 1 1 rfl n2
        unfold pCSP at HBA HSD c3'
        dsimp only [Option.getD, Option.isSome] at HBA HSD c3'
        obtain ⟨nx, hnx⟩ : ∃ nx, (a :: x').length = nx := ⟨_, rfl⟩
        obtain ⟨ny, hny⟩ : ∃ ny, y.length = ny := ⟨_, rfl⟩
        rw [hnx] at HSD p1 p2 n1 n2 hdx
        rw [hny] at HSD hdy
        simp only [hnx] at hsl
        rw [hnx, hny]
        have HNX := Lib.hid (And.intro hnx (And.intro hny (And.intro hT1a hT1b))); clear hnx hny hT1a hT1b hcx hsx hsy h0
        unfold maxLen at hmx hmy
        have HMX := Lib.hid (And.intro hmx hmy); clear hmx hmy
        gi_wp2
        refine ⟨trivial, (callsIn_wide.2 HSD.out).mono ?_⟩
        rintro e w2 ⟨rfl, hb2⟩
        have hbb2 := HBA.out.1.trans (hb2.mono HBA.out.1.size)
        have hP2 := HBA.out.2.below hb2 HBA.out.2.lt
        have e0 := (hbb2.cell (p := ⟨g1, o1, none⟩) hg1).trans q0
        have e1 := (hbb2.cell (p := ⟨g1, o1 + 1, none⟩) hg1).trans q1
        have e1_2 := (hbb2.cell (p := ⟨g1, o1 + 2, none⟩) hg1).trans q1_2
        have e1_3 := (hbb2.cell (p := ⟨g1, o1 + 3, none⟩) hg1).trans q1_3
        have e1_4 := (hbb2.cell (p := ⟨g1, o1 + 4, none⟩) hg1).trans q1_4
        have e1_5 := (hbb2.cell (p := ⟨g1, o1 + 5, none⟩) hg1).trans q1_5
        rw [hT] at hP2
        have x0 := hP2.cell 0
        have x1 := hP2.cell 1
        have x2 := hP2.cell 2
        have x3 := hP2.cell 3
        have x4 := hP2.cell 4
        have x5 := hP2.cell 5
        have x6 := hP2.cell 6
        have x7 := hP2.cell 7
        have x8 := hP2.cell 8
        have x9 := hP2.cell 9
        have x10 := hP2.cell 10
        have x11 := hP2.cell 11
        have f0 := hP2.frozen 0
        have f1 := hP2.frozen 1
        have f2 := hP2.frozen 2
        have f3 := hP2.frozen 3
        have f4 := hP2.frozen 4
        have f5 := hP2.frozen 5
        have f6 := hP2.frozen 6
        have f7 := hP2.frozen 7
        have f8 := hP2.frozen 8
        have f9 := hP2.frozen 9
        have f10 := hP2.frozen 10
        have f11 := hP2.frozen 11
        simp at x0 x1 x2 x3 x4 x5 x6 x7 x8 x9 x10 x11
        have hgT : g1 ≠ T := by omega
        have HW2 := Lib.hid (And.intro hbb2 hP2)
        have s1 : s ≤ 0 := by omega
        have s2 : ¬ 0 ≤ s := by omega
        clear hb2 hbb2 hP2 q0 q1 q1_2 q1_3 q1_4 q1_5 HSD c3 c3' HSQ HST
        gi_wp2
        refine wpIn_wide.2 ?_
        go_region
        have hP3 : Blk ((((((w2.setCell ⟨T, 0, none⟩ (.int .i64 a.2.kind)).setCell ⟨T, 1, none⟩ (.int .i64 a.2.mode)).setCell ⟨T, 2, none⟩ (.int .u32 a.2.time)).setCell ⟨T, 3, none⟩ (.int .i64 a.2.size)).setCell ⟨T, 4, none⟩ (.int .u32 a.2.sum)).setCell ⟨T, 10, none⟩ (.bool true)).drew T 59 (pCSP (some a.2, none)) := ((((((HW2.out.2.put 0 (.int .i64 a.2.kind)).put 1 (.int .i64 a.2.mode)).put 2 (.int .u32 a.2.time)).put 3 (.int .i64 a.2.size)).put 4 (.int .u32 a.2.sum)).put 10 (.bool true)).drew
        have hb3 : Below wr.heap.size wr ((((((w2.setCell ⟨T, 0, none⟩ (.int .i64 a.2.kind)).setCell ⟨T, 1, none⟩ (.int .i64 a.2.mode)).setCell ⟨T, 2, none⟩ (.int .u32 a.2.time)).setCell ⟨T, 3, none⟩ (.int .i64 a.2.size)).setCell ⟨T, 4, none⟩ (.int .u32 a.2.sum)).setCell ⟨T, 10, none⟩ (.bool true)).drew := ((((((HW2.out.1.setCell (p := ⟨T, 0, none⟩) (by dsimp only; omega) _).setCell (p := ⟨T, 1, none⟩) (by dsimp only; omega) _).setCell (p := ⟨T, 2, none⟩) (by dsimp only; omega) _).setCell (p := ⟨T, 3, none⟩) (by dsimp only; omega) _).setCell (p := ⟨T, 4, none⟩) (by dsimp only; omega) _).setCell (p := ⟨T, 10, none⟩) (by dsimp only; omega) _).drew
        generalize ((((((w2.setCell ⟨T, 0, none⟩ (.int .i64 a.2.kind)).setCell ⟨T, 1, none⟩ (.int .i64 a.2.mode)).setCell ⟨T, 2, none⟩ (.int .u32 a.2.time)).setCell ⟨T, 3, none⟩ (.int .i64 a.2.size)).setCell ⟨T, 4, none⟩ (.int .u32 a.2.sum)).setCell ⟨T, 10, none⟩ (.bool true)).drew = w3 at *
        clear x0 x1 x2 x3 x4 x5 x6 x7 x8 x9 x10 x11 f0 f1 f2 f3 f4 f5 f6 f7 f8 f9 f10 f11
        have x0 := hP3.cell 0
        have x1 := hP3.cell 1
        have x2 := hP3.cell 2
        have x3 := hP3.cell 3
        have x4 := hP3.cell 4
        have x5 := hP3.cell 5
        have x6 := hP3.cell 6
        have x7 := hP3.cell 7
        have x8 := hP3.cell 8
        have x9 := hP3.cell 9
        have x10 := hP3.cell 10
        have x11 := hP3.cell 11
        simp [pCSP] at x0 x1 x2 x3 x4 x5 x6 x7 x8 x9 x10 x11
        have hpf : (pre ++ [(a.1, some a.2, none)]) ++ joinL ordS x' y = joinL ordS xs ys := by rw [← HR.out.1, HJX.out, List.append_assoc]; rfl
        have hy := HY.out pre (a.1, some a.2, none) w3 (HJ.out _ _ _ none HR.out.2.2.2.2.2.1 (grown_below hb3) (fun r h => by cases h)) ⟨_, hpf⟩
        have HZ := Lib.hid (And.intro hpf hb3); clear hpf hb3 hP3
        obtain ⟨fn, tmps, assign, body, hyy, hRY⟩ := hy
        try dsimp only at hyy
        simp only [pCSP, Option.getD, Option.isSome] at hyy hRY
        gi_wp2
        refine hRY.mono ?_
        rintro e W3 (⟨rfl, hJ3, hk3⟩ | ⟨rfl, hJx3⟩)
        · have hKw : ∀ g, JoinK b1 b2 b3 (.slice A1 xs.length d1) (.slice A2 ys.length d2) g → g < wr.heap.size := fun g hg => Nat.lt_of_lt_of_le (HB.out.2.2.2 g hg) HR.out.2.2.2.2.2.2.size
          have hk23 := (KeepP.below HZ.out.2 hKw).trans hk3
          have hLx := HLX.out.drop eCSP_len 1 (by simp) T1 (fun h => by rw [HNX.out.2.2.1 h, Nat.one_mul])
          rw [List.drop_one, List.tail_cons, HNX.out.1] at hLx
          have hZ2 : JoinAtSP J b1 b2 b3 (.slice A1 xs.length d1) (.slice A2 ys.length d2) xs ys W (.slice (some T1) (nx - 1) (dx - 1)) (.slice Ay ny dy) W3 := by
            refine ⟨pre ++ [(a.1, some a.2, none)], x', y, HZ.out.1, hLx.keptP hk23 (fun g hg => .inr (.inr (.inr (.inl (HR.out.2.1 g (by rw [← hg]; simp [Value.ownBlock, HNX.out.2.2.2])))))), ?_, fun g hg => HR.out.2.1 g (by rw [← hg]; simp [Value.ownBlock, HNX.out.2.2.2]), ?_, fun e he => HR.out.2.2.2.1 e (List.mem_cons_of_mem _ he), HR.out.2.2.2.2.1, ?_, hyl, hJ3, HR.out.2.2.2.2.2.2.trans hk23⟩
            · have := HLY.out.keptP hk23 (fun g hg => .inr (.inr (.inr (.inr (HR.out.2.2.1 g hg)))))
              rw [HNX.out.2.1] at this
              exact this
            · have := HR.out.2.2.1
              rw [HNX.out.2.1] at this
              exact this
            · simp only [List.length_cons] at hxl; omega
          have HZ2 := Lib.hid hZ2; clear hZ2 hJ3 hk3 hk23 hLx hKw
          gi_wp2
          go_roundw
          case rel => exact HZ2.out
          case measure => simp [slLenJ]; omega
        · gi_wp2
          refine bodyPost_ret (results_none rfl _ _ _) rfl ?_
          exact ⟨⟨_, rfl⟩, .inr ⟨_, ⟨_, HZ.out.1⟩, hJx3⟩⟩
      · have HJX := Lib.hid hj; clear hj
        obtain ⟨s, hs'⟩ : ∃ s, sideL ordS x (b :: y') = s := ⟨_, rfl⟩
        rw [hs'] at hs HSD
        have p1 : (0 : Int) < ((b :: y').length : Nat) := by simp only [List.length_cons]; omega
        have p2 : 0 < (b :: y').length := by simp only [List.length_cons]; omega
        obtain ⟨g1, o1, rfl, hg1, hcx⟩ := hsy (by simp)
        have q0 := hcx 0 (by simp) 0 (by decide)
        have q1 := hcx 0 (by simp) 1 (by decide)
        have q1_2 := hcx 0 (by simp) 2 (by decide)
        have q1_3 := hcx 0 (by simp) 3 (by decide)
        have q1_4 := hcx 0 (by simp) 4 (by decide)
        have q1_5 := hcx 0 (by simp) 5 (by decide)
        simp only [eCSP, List.getElem?_cons_zero, List.getElem?_cons_succ, List.getElem_cons_zero, Nat.zero_mul, Nat.add_zero, Nat.zero_add] at q0 q1 q1_2 q1_3 q1_4 q1_5
        have n1 : (1 : Int) ≤ ((b :: y').length : Nat) := by omega
        have n2 : 1 ≤ (b :: y').length := by omega
        obtain ⟨T1, hsl, hT1a, hT1b⟩ := slice_from (P := Tryz.prog) 94 100 6 Tryz.underlying94 (by kernel_rfl) Tryz.sizeOf100 g1 o1 (b :: y').length dy 1 1 rfl n2
        unfold pCSP at HBA HSD c3'
        dsimp only [Option.getD, Option.isSome] at HBA HSD c3'
        obtain ⟨nx, hnx⟩ : ∃ nx, x.length = nx := ⟨_, rfl⟩
        obtain ⟨ny, hny⟩ : ∃ ny, (b :: y').length = ny := ⟨_, rfl⟩
        rw [hnx] at HSD hdx
        rw [hny] at HSD p1 p2 n1 n2 hdy
        simp only [hny] at hsl
        rw [hnx, hny]
        have HNX := Lib.hid (And.intro hny (And.intro hnx (And.intro hT1a hT1b))); clear hnx hny hT1a hT1b hcx hsx hsy h0
        unfold maxLen at hmx hmy
        have HMX := Lib.hid (And.intro hmx hmy); clear hmx hmy
        rcases Nat.eq_zero_or_pos nx with hx0 | hx0
        · subst hx0
          gi_wp2
          refine ⟨trivial, (callsIn_wide.2 HSD.out).mono ?_⟩
          rintro e w2 ⟨rfl, hb2⟩
          have hbb2 := HBA.out.1.trans (hb2.mono HBA.out.1.size)
          have hP2 := HBA.out.2.below hb2 HBA.out.2.lt
          have e0 := (hbb2.cell (p := ⟨g1, o1, none⟩) hg1).trans q0
          have e1 := (hbb2.cell (p := ⟨g1, o1 + 1, none⟩) hg1).trans q1
          have e1_2 := (hbb2.cell (p := ⟨g1, o1 + 2, none⟩) hg1).trans q1_2
          have e1_3 := (hbb2.cell (p := ⟨g1, o1 + 3, none⟩) hg1).trans q1_3
          have e1_4 := (hbb2.cell (p := ⟨g1, o1 + 4, none⟩) hg1).trans q1_4
          have e1_5 := (hbb2.cell (p := ⟨g1, o1 + 5, none⟩) hg1).trans q1_5
          rw [hT] at hP2
          have x0 := hP2.cell 0
          have x1 := hP2.cell 1
          have x2 := hP2.cell 2
          have x3 := hP2.cell 3
          have x4 := hP2.cell 4
          have x5 := hP2.cell 5
          have x6 := hP2.cell 6
          have x7 := hP2.cell 7
          have x8 := hP2.cell 8
          have x9 := hP2.cell 9
          have x10 := hP2.cell 10
          have x11 := hP2.cell 11
          have f0 := hP2.frozen 0
          have f1 := hP2.frozen 1
          have f2 := hP2.frozen 2
          have f3 := hP2.frozen 3
          have f4 := hP2.frozen 4
          have f5 := hP2.frozen 5
          have f6 := hP2.frozen 6
          have f7 := hP2.frozen 7
          have f8 := hP2.frozen 8
          have f9 := hP2.frozen 9
          have f10 := hP2.frozen 10
          have f11 := hP2.frozen 11
          simp at x0 x1 x2 x3 x4 x5 x6 x7 x8 x9 x10 x11
          have hgT : g1 ≠ T := by omega
          have HW2 := Lib.hid (And.intro hbb2 hP2)
          have s1 : ¬ s ≤ 0 := by omega
          have s2 : 0 ≤ s := by omega
          clear hb2 hbb2 hP2 q0 q1 q1_2 q1_3 q1_4 q1_5 HSD c3 c3' HSQ HST
          gi_wp2
          refine wpIn_wide.2 ?_
          go_region
          have hP3 : Blk ((((((w2.setCell ⟨T, 5, none⟩ (.int .i64 b.2.kind)).setCell ⟨T, 6, none⟩ (.int .i64 b.2.mode)).setCell ⟨T, 7, none⟩ (.int .u32 b.2.time)).setCell ⟨T, 8, none⟩ (.int .i64 b.2.size)).setCell ⟨T, 9, none⟩ (.int .u32 b.2.sum)).setCell ⟨T, 11, none⟩ (.bool true)).drew T 59 (pCSP (none, some b.2)) := ((((((HW2.out.2.put 5 (.int .i64 b.2.kind)).put 6 (.int .i64 b.2.mode)).put 7 (.int .u32 b.2.time)).put 8 (.int .i64 b.2.size)).put 9 (.int .u32 b.2.sum)).put 11 (.bool true)).drew
          have hb3 : Below wr.heap.size wr ((((((w2.setCell ⟨T, 5, none⟩ (.int .i64 b.2.kind)).setCell ⟨T, 6, none⟩ (.int .i64 b.2.mode)).setCell ⟨T, 7, none⟩ (.int .u32 b.2.time)).setCell ⟨T, 8, none⟩ (.int .i64 b.2.size)).setCell ⟨T, 9, none⟩ (.int .u32 b.2.sum)).setCell ⟨T, 11, none⟩ (.bool true)).drew := ((((((HW2.out.1.setCell (p := ⟨T, 5, none⟩) (by dsimp only; omega) _).setCell (p := ⟨T, 6, none⟩) (by dsimp only; omega) _).setCell (p := ⟨T, 7, none⟩) (by dsimp only; omega) _).setCell (p := ⟨T, 8, none⟩) (by dsimp only; omega) _).setCell (p := ⟨T, 9, none⟩) (by dsimp only; omega) _).setCell (p := ⟨T, 11, none⟩) (by dsimp only; omega) _).drew
          generalize ((((((w2.setCell ⟨T, 5, none⟩ (.int .i64 b.2.kind)).setCell ⟨T, 6, none⟩ (.int .i64 b.2.mode)).setCell ⟨T, 7, none⟩ (.int .u32 b.2.time)).setCell ⟨T, 8, none⟩ (.int .i64 b.2.size)).setCell ⟨T, 9, none⟩ (.int .u32 b.2.sum)).setCell ⟨T, 11, none⟩ (.bool true)).drew = w3 at *
          clear x0 x1 x2 x3 x4 x5 x6 x7 x8 x9 x10 x11 f0 f1 f2 f3 f4 f5 f6 f7 f8 f9 f10 f11
          have x0 := hP3.cell 0
          have x1 := hP3.cell 1
          have x2 := hP3.cell 2
          have x3 := hP3.cell 3
          have x4 := hP3.cell 4
          have x5 := hP3.cell 5
          have x6 := hP3.cell 6
          have x7 := hP3.cell 7
          have x8 := hP3.cell 8
          have x9 := hP3.cell 9
          have x10 := hP3.cell 10
          have x11 := hP3.cell 11
          simp [pCSP] at x0 x1 x2 x3 x4 x5 x6 x7 x8 x9 x10 x11
          have hpf : (pre ++ [(b.1, none, some b.2)]) ++ joinL ordS x y' = joinL ordS xs ys := by rw [← HR.out.1, HJX.out, List.append_assoc]; rfl
          have hy := HY.out pre (b.1, none, some b.2) w3 (HJ.out _ _ _ none HR.out.2.2.2.2.2.1 (grown_below hb3) (fun r h => by cases h)) ⟨_, hpf⟩
          have HZ := Lib.hid (And.intro hpf hb3); clear hpf hb3 hP3
          obtain ⟨fn, tmps, assign, body, hyy, hRY⟩ := hy
          try dsimp only at hyy
          simp only [pCSP, Option.getD, Option.isSome] at hyy hRY
          gi_wp2
          refine hRY.mono ?_
          rintro e W3 (⟨rfl, hJ3, hk3⟩ | ⟨rfl, hJx3⟩)
          · have hKw : ∀ g, JoinK b1 b2 b3 (.slice A1 xs.length d1) (.slice A2 ys.length d2) g → g < wr.heap.size := fun g hg => Nat.lt_of_lt_of_le (HB.out.2.2.2 g hg) HR.out.2.2.2.2.2.2.size
            have hk23 := (KeepP.below HZ.out.2 hKw).trans hk3
            have hLx := HLY.out.drop eCSP_len 1 (by simp) T1 (fun h => by rw [HNX.out.2.2.1 h, Nat.one_mul])
            rw [List.drop_one, List.tail_cons, HNX.out.1] at hLx
            have hZ2 : JoinAtSP J b1 b2 b3 (.slice A1 xs.length d1) (.slice A2 ys.length d2) xs ys W (.slice Ax 0 dx) (.slice (some T1) (ny - 1) (dy - 1)) W3 := by
              refine ⟨pre ++ [(b.1, none, some b.2)], x, y', HZ.out.1, ?_, hLx.keptP hk23 (fun g hg => .inr (.inr (.inr (.inr (HR.out.2.2.1 g (by rw [← hg]; simp [Value.ownBlock, HNX.out.2.2.2])))))), ?_, fun g hg => HR.out.2.2.1 g (by rw [← hg]; simp [Value.ownBlock, HNX.out.2.2.2]), HR.out.2.2.2.1, fun e he => HR.out.2.2.2.2.1 e (List.mem_cons_of_mem _ he), hxl, ?_, hJ3, HR.out.2.2.2.2.2.2.trans hk23⟩
              · have := HLX.out.keptP hk23 (fun g hg => .inr (.inr (.inr (.inl (HR.out.2.1 g hg)))))
                rw [HNX.out.2.1] at this
                exact this
              · have := HR.out.2.1
                rw [HNX.out.2.1] at this
                exact this
              · simp only [List.length_cons] at hyl; omega
            have HZ2 := Lib.hid hZ2; clear hZ2 hJ3 hk3 hk23 hLx hKw
            gi_wp2
            go_roundw
            case rel => exact HZ2.out
            case measure => simp [slLenJ]; omega
          · gi_wp2
            refine bodyPost_ret (results_none rfl _ _ _) rfl ?_
            exact ⟨⟨_, rfl⟩, .inr ⟨_, ⟨_, HZ.out.1⟩, hJx3⟩⟩
        · have hx1 : (0 : Int) < nx := by omega
          gi_wp2
          refine ⟨trivial, (callsIn_wide.2 HSD.out).mono ?_⟩
          rintro e w2 ⟨rfl, hb2⟩
          have hbb2 := HBA.out.1.trans (hb2.mono HBA.out.1.size)
          have hP2 := HBA.out.2.below hb2 HBA.out.2.lt
          have e0 := (hbb2.cell (p := ⟨g1, o1, none⟩) hg1).trans q0
          have e1 := (hbb2.cell (p := ⟨g1, o1 + 1, none⟩) hg1).trans q1
          have e1_2 := (hbb2.cell (p := ⟨g1, o1 + 2, none⟩) hg1).trans q1_2
          have e1_3 := (hbb2.cell (p := ⟨g1, o1 + 3, none⟩) hg1).trans q1_3
          have e1_4 := (hbb2.cell (p := ⟨g1, o1 + 4, none⟩) hg1).trans q1_4
          have e1_5 := (hbb2.cell (p := ⟨g1, o1 + 5, none⟩) hg1).trans q1_5
          rw [hT] at hP2
          have x0 := hP2.cell 0
          have x1 := hP2.cell 1
          have x2 := hP2.cell 2
          have x3 := hP2.cell 3
          have x4 := hP2.cell 4
          have x5 := hP2.cell 5
          have x6 := hP2.cell 6
          have x7 := hP2.cell 7
          have x8 := hP2.cell 8
          have x9 := hP2.cell 9
          have x10 := hP2.cell 10
          have x11 := hP2.cell 11
          have f0 := hP2.frozen 0
          have f1 := hP2.frozen 1
          have f2 := hP2.frozen 2
          have f3 := hP2.frozen 3
          have f4 := hP2.frozen 4
          have f5 := hP2.frozen 5
          have f6 := hP2.frozen 6
          have f7 := hP2.frozen 7
          have f8 := hP2.frozen 8
          have f9 := hP2.frozen 9
          have f10 := hP2.frozen 10
          have f11 := hP2.frozen 11
          simp at x0 x1 x2 x3 x4 x5 x6 x7 x8 x9 x10 x11
          have hgT : g1 ≠ T := by omega
          have HW2 := Lib.hid (And.intro hbb2 hP2)
          have s1 : ¬ s ≤ 0 := by omega
          have s2 : 0 ≤ s := by omega
          clear hb2 hbb2 hP2 q0 q1 q1_2 q1_3 q1_4 q1_5 HSD c3 c3' HSQ HST
          gi_wp2
          refine wpIn_wide.2 ?_
          go_region
          have hP3 : Blk ((((((w2.setCell ⟨T, 5, none⟩ (.int .i64 b.2.kind)).setCell ⟨T, 6, none⟩ (.int .i64 b.2.mode)).setCell ⟨T, 7, none⟩ (.int .u32 b.2.time)).setCell ⟨T, 8, none⟩ (.int .i64 b.2.size)).setCell ⟨T, 9, none⟩ (.int .u32 b.2.sum)).setCell ⟨T, 11, none⟩ (.bool true)).drew T 59 (pCSP (none, some b.2)) := ((((((HW2.out.2.put 5 (.int .i64 b.2.kind)).put 6 (.int .i64 b.2.mode)).put 7 (.int .u32 b.2.time)).put 8 (.int .i64 b.2.size)).put 9 (.int .u32 b.2.sum)).put 11 (.bool true)).drew
          have hb3 : Below wr.heap.size wr ((((((w2.setCell ⟨T, 5, none⟩ (.int .i64 b.2.kind)).setCell ⟨T, 6, none⟩ (.int .i64 b.2.mode)).setCell ⟨T, 7, none⟩ (.int .u32 b.2.time)).setCell ⟨T, 8, none⟩ (.int .i64 b.2.size)).setCell ⟨T, 9, none⟩ (.int .u32 b.2.sum)).setCell ⟨T, 11, none⟩ (.bool true)).drew := ((((((HW2.out.1.setCell (p := ⟨T, 5, none⟩) (by dsimp only; omega) _).setCell (p := ⟨T, 6, none⟩) (by dsimp only; omega) _).setCell (p := ⟨T, 7, none⟩) (by dsimp only; omega) _).setCell (p := ⟨T, 8, none⟩) (by dsimp only; omega) _).setCell (p := ⟨T, 9, none⟩) (by dsimp only; omega) _).setCell (p := ⟨T, 11, none⟩) (by dsimp only; omega) _).drew
          generalize ((((((w2.setCell ⟨T, 5, none⟩ (.int .i64 b.2.kind)).setCell ⟨T, 6, none⟩ (.int .i64 b.2.mode)).setCell ⟨T, 7, none⟩ (.int .u32 b.2.time)).setCell ⟨T, 8, none⟩ (.int .i64 b.2.size)).setCell ⟨T, 9, none⟩ (.int .u32 b.2.sum)).setCell ⟨T, 11, none⟩ (.bool true)).drew = w3 at *
          clear x0 x1 x2 x3 x4 x5 x6 x7 x8 x9 x10 x11 f0 f1 f2 f3 f4 f5 f6 f7 f8 f9 f10 f11
          have x0 := hP3.cell 0
          have x1 := hP3.cell 1
          have x2 := hP3.cell 2
          have x3 := hP3.cell 3
          have x4 := hP3.cell 4
          have x5 := hP3.cell 5
          have x6 := hP3.cell 6
          have x7 := hP3.cell 7
          have x8 := hP3.cell 8
          have x9 := hP3.cell 9
          have x10 := hP3.cell 10
          have x11 := hP3.cell 11
          simp [pCSP] at x0 x1 x2 x3 x4 x5 x6 x7 x8 x9 x10 x11
          have hpf : (pre ++ [(b.1, none, some b.2)]) ++ joinL ordS x y' = joinL ordS xs ys := by rw [← HR.out.1, HJX.out, List.append_assoc]; rfl
          have hy := HY.out pre (b.1, none, some b.2) w3 (HJ.out _ _ _ none HR.out.2.2.2.2.2.1 (grown_below hb3) (fun r h => by cases h)) ⟨_, hpf⟩
          have HZ := Lib.hid (And.intro hpf hb3); clear hpf hb3 hP3
          obtain ⟨fn, tmps, assign, body, hyy, hRY⟩ := hy
          try dsimp only at hyy
          simp only [pCSP, Option.getD, Option.isSome] at hyy hRY
          gi_wp2
          refine hRY.mono ?_
          rintro e W3 (⟨rfl, hJ3, hk3⟩ | ⟨rfl, hJx3⟩)
          · have hKw : ∀ g, JoinK b1 b2 b3 (.slice A1 xs.length d1) (.slice A2 ys.length d2) g → g < wr.heap.size := fun g hg => Nat.lt_of_lt_of_le (HB.out.2.2.2 g hg) HR.out.2.2.2.2.2.2.size
            have hk23 := (KeepP.below HZ.out.2 hKw).trans hk3
            have hLx := HLY.out.drop eCSP_len 1 (by simp) T1 (fun h => by rw [HNX.out.2.2.1 h, Nat.one_mul])
            rw [List.drop_one, List.tail_cons, HNX.out.1] at hLx
            have hZ2 : JoinAtSP J b1 b2 b3 (.slice A1 xs.length d1) (.slice A2 ys.length d2) xs ys W (.slice Ax nx dx) (.slice (some T1) (ny - 1) (dy - 1)) W3 := by
              refine ⟨pre ++ [(b.1, none, some b.2)], x, y', HZ.out.1, ?_, hLx.keptP hk23 (fun g hg => .inr (.inr (.inr (.inr (HR.out.2.2.1 g (by rw [← hg]; simp [Value.ownBlock, HNX.out.2.2.2])))))), ?_, fun g hg => HR.out.2.2.1 g (by rw [← hg]; simp [Value.ownBlock, HNX.out.2.2.2]), HR.out.2.2.2.1, fun e he => HR.out.2.2.2.2.1 e (List.mem_cons_of_mem _ he), hxl, ?_, hJ3, HR.out.2.2.2.2.2.2.trans hk23⟩
              · have := HLX.out.keptP hk23 (fun g hg => .inr (.inr (.inr (.inl (HR.out.2.1 g hg)))))
                rw [HNX.out.2.1] at this
                exact this
              · have := HR.out.2.1
                rw [HNX.out.2.1] at this
                exact this
              · simp only [List.length_cons] at hyl; omega
            have HZ2 := Lib.hid hZ2; clear hZ2 hJ3 hk3 hk23 hLx hKw
            gi_wp2
            go_roundw
            case rel => exact HZ2.out
            case measure => simp [slLenJ]; omega
          · gi_wp2
            refine bodyPost_ret (results_none rfl _ _ _) rfl ?_
            exact ⟨⟨_, rfl⟩, .inr ⟨_, ⟨_, HZ.out.1⟩, hJx3⟩⟩
      · have HJX := Lib.hid hj; clear hj
        obtain ⟨s, hs'⟩ : ∃ s, sideL ordS (a :: x') (b :: y') = s := ⟨_, rfl⟩
        rw [hs'] at hs HSD
        have p1 : (0 : Int) < ((a :: x').length : Nat) := by simp only [List.length_cons]; omega
        have p2 : 0 < (a :: x').length := by simp only [List.length_cons]; omega
        have p3 : (0 : Int) < ((b :: y').length : Nat) := by simp only [List.length_cons]; omega
        have p4 : 0 < (b :: y').length := by simp only [List.length_cons]; omega
        obtain ⟨g1, o1, rfl, hg1, hcx⟩ := hsx (by simp)
        obtain ⟨g2, o2, rfl, hg2, hcy⟩ := hsy (by simp)
        have q0 := hcx 0 (by simp) 0 (by decide)
        have q1 := hcx 0 (by simp) 1 (by decide)
        have q1_2 := hcx 0 (by simp) 2 (by decide)
        have q1_3 := hcx 0 (by simp) 3 (by decide)
        have q1_4 := hcx 0 (by simp) 4 (by decide)
        have q1_5 := hcx 0 (by simp) 5 (by decide)
        have q2 := hcy 0 (by simp) 0 (by decide)
        have q3 := hcy 0 (by simp) 1 (by decide)
        have q3_2 := hcy 0 (by simp) 2 (by decide)
        have q3_3 := hcy 0 (by simp) 3 (by decide)
        have q3_4 := hcy 0 (by simp) 4 (by decide)
        have q3_5 := hcy 0 (by simp) 5 (by decide)
        simp only [eCSP, List.getElem?_cons_zero, List.getElem?_cons_succ, List.getElem_cons_zero, Nat.zero_mul, Nat.add_zero, Nat.zero_add] at q0 q1 q1_2 q1_3 q1_4 q1_5 q2 q3 q3_2 q3_3 q3_4 q3_5
        have n1 : (1 : Int) ≤ ((a :: x').length : Nat) := by omega
        have n2 : 1 ≤ (a :: x').length := by omega
        have n3 : (1 : Int) ≤ ((b :: y').length : Nat) := by omega
        have n4 : 1 ≤ (b :: y').length := by omega
        obtain ⟨T1, hsl, hT1a, hT1b⟩ := slice_from (P := Tryz.prog) 94 100 6 Tryz.underlying94 (by kernel_rfl) Tryz.sizeOf100 g1 o1 (a :: x').length dx 1 1 rfl n2
        obtain ⟨T2, hsl2, hT2a, hT2b⟩ := slice_from (P := Tryz.prog) 94 100 6 Tryz.underlying94 (by kernel_rfl) Tryz.sizeOf100 g2 o2 (b :: y').length dy 1 1 rfl n4
        unfold pCSP at HBA HSD c3'
        dsimp only [Option.getD, Option.isSome] at HBA HSD c3'
        obtain ⟨nx, hnx⟩ : ∃ nx, (a :: x').length = nx := ⟨_, rfl⟩
        obtain ⟨ny, hny⟩ : ∃ ny, (b :: y').length = ny := ⟨_, rfl⟩
        rw [hnx] at HSD p1 p2 n1 n2 hdx
        rw [hny] at HSD p3 p4 n3 n4 hdy
        simp only [hnx] at hsl
        simp only [hny] at hsl2
        rw [hnx, hny]
        have HNX := Lib.hid (And.intro hnx (And.intro hny (And.intro hT1a hT1b)))
        have HNY := Lib.hid (And.intro hT2a hT2b); clear hnx hny hT1a hT1b hT2a hT2b hcx hcy hsx hsy h0
        unfold maxLen at hmx hmy
        have HMX := Lib.hid (And.intro hmx hmy); clear hmx hmy
        gi_wp2
        refine ⟨trivial, (callsIn_wide.2 HSD.out).mono ?_⟩
        rintro e w2 ⟨rfl, hb2⟩
        have hbb2 := HBA.out.1.trans (hb2.mono HBA.out.1.size)
        have hP2 := HBA.out.2.below hb2 HBA.out.2.lt
        have e0 := (hbb2.cell (p := ⟨g1, o1, none⟩) hg1).trans q0
        have e1 := (hbb2.cell (p := ⟨g1, o1 + 1, none⟩) hg1).trans q1
        have e1_2 := (hbb2.cell (p := ⟨g1, o1 + 2, none⟩) hg1).trans q1_2
        have e1_3 := (hbb2.cell (p := ⟨g1, o1 + 3, none⟩) hg1).trans q1_3
        have e1_4 := (hbb2.cell (p := ⟨g1, o1 + 4, none⟩) hg1).trans q1_4
        have e1_5 := (hbb2.cell (p := ⟨g1, o1 + 5, none⟩) hg1).trans q1_5
        rw [hT] at hP2
        have x0 := hP2.cell 0
        have x1 := hP2.cell 1
        have x2 := hP2.cell 2
        have x3 := hP2.cell 3
        have x4 := hP2.cell 4
        have x5 := hP2.cell 5
        have x6 := hP2.cell 6
        have x7 := hP2.cell 7
        have x8 := hP2.cell 8
        have x9 := hP2.cell 9
        have x10 := hP2.cell 10
        have x11 := hP2.cell 11
        have f0 := hP2.frozen 0
        have f1 := hP2.frozen 1
        have f2 := hP2.frozen 2
        have f3 := hP2.frozen 3
        have f4 := hP2.frozen 4
        have f5 := hP2.frozen 5
        have f6 := hP2.frozen 6
        have f7 := hP2.frozen 7
        have f8 := hP2.frozen 8
        have f9 := hP2.frozen 9
        have f10 := hP2.frozen 10
        have f11 := hP2.frozen 11
        simp at x0 x1 x2 x3 x4 x5 x6 x7 x8 x9 x10 x11
        have hgT : g1 ≠ T := by omega
        have HW2 := Lib.hid (And.intro hbb2 hP2)
        have s1 : s ≤ 0 := by omega
        have s2 : 0 ≤ s := by omega
        clear hb2 hbb2 hP2 q0 q1 q1_2 q1_3 q1_4 q1_5 HSD c3 c3' HSQ HST
        gi_wp2
        refine wpIn_wide.2 ?_
        go_region
        have hP3 : Blk ((((((w2.setCell ⟨T, 0, none⟩ (.int .i64 a.2.kind)).setCell ⟨T, 1, none⟩ (.int .i64 a.2.mode)).setCell ⟨T, 2, none⟩ (.int .u32 a.2.time)).setCell ⟨T, 3, none⟩ (.int .i64 a.2.size)).setCell ⟨T, 4, none⟩ (.int .u32 a.2.sum)).setCell ⟨T, 10, none⟩ (.bool true)).drew T 59 (pCSP (some a.2, none)) := ((((((HW2.out.2.put 0 (.int .i64 a.2.kind)).put 1 (.int .i64 a.2.mode)).put 2 (.int .u32 a.2.time)).put 3 (.int .i64 a.2.size)).put 4 (.int .u32 a.2.sum)).put 10 (.bool true)).drew
        have hb3 : Below wr.heap.size wr ((((((w2.setCell ⟨T, 0, none⟩ (.int .i64 a.2.kind)).setCell ⟨T, 1, none⟩ (.int .i64 a.2.mode)).setCell ⟨T, 2, none⟩ (.int .u32 a.2.time)).setCell ⟨T, 3, none⟩ (.int .i64 a.2.size)).setCell ⟨T, 4, none⟩ (.int .u32 a.2.sum)).setCell ⟨T, 10, none⟩ (.bool true)).drew := ((((((HW2.out.1.setCell (p := ⟨T, 0, none⟩) (by dsimp only; omega) _).setCell (p := ⟨T, 1, none⟩) (by dsimp only; omega) _).setCell (p := ⟨T, 2, none⟩) (by dsimp only; omega) _).setCell (p := ⟨T, 3, none⟩) (by dsimp only; omega) _).setCell (p := ⟨T, 4, none⟩) (by dsimp only; omega) _).setCell (p := ⟨T, 10, none⟩) (by dsimp only; omega) _).drew
        generalize ((((((w2.setCell ⟨T, 0, none⟩ (.int .i64 a.2.kind)).setCell ⟨T, 1, none⟩ (.int .i64 a.2.mode)).setCell ⟨T, 2, none⟩ (.int .u32 a.2.time)).setCell ⟨T, 3, none⟩ (.int .i64 a.2.size)).setCell ⟨T, 4, none⟩ (.int .u32 a.2.sum)).setCell ⟨T, 10, none⟩ (.bool true)).drew = w3 at *
        clear x0 x1 x2 x3 x4 x5 x6 x7 x8 x9 x10 x11 f0 f1 f2 f3 f4 f5 f6 f7 f8 f9 f10 f11 e0 e1 e1_2 e1_3 e1_4 e1_5
        have x0 := hP3.cell 0
        have x1 := hP3.cell 1
        have x2 := hP3.cell 2
        have x3 := hP3.cell 3
        have x4 := hP3.cell 4
        have x5 := hP3.cell 5
        have x6 := hP3.cell 6
        have x7 := hP3.cell 7
        have x8 := hP3.cell 8
        have x9 := hP3.cell 9
        have x10 := hP3.cell 10
        have x11 := hP3.cell 11
        have f0 := hP3.frozen 0
        have f1 := hP3.frozen 1
        have f2 := hP3.frozen 2
        have f3 := hP3.frozen 3
        have f4 := hP3.frozen 4
        have f5 := hP3.frozen 5
        have f6 := hP3.frozen 6
        have f7 := hP3.frozen 7
        have f8 := hP3.frozen 8
        have f9 := hP3.frozen 9
        have f10 := hP3.frozen 10
        have f11 := hP3.frozen 11
        simp [pCSP] at x0 x1 x2 x3 x4 x5 x6 x7 x8 x9 x10 x11
        have e0 := (hb3.cell (p := ⟨g2, o2, none⟩) hg2).trans q2
        have e1 := (hb3.cell (p := ⟨g2, o2 + 1, none⟩) hg2).trans q3
        have e1_2 := (hb3.cell (p := ⟨g2, o2 + 2, none⟩) hg2).trans q3_2
        have e1_3 := (hb3.cell (p := ⟨g2, o2 + 3, none⟩) hg2).trans q3_3
        have e1_4 := (hb3.cell (p := ⟨g2, o2 + 4, none⟩) hg2).trans q3_4
        have e1_5 := (hb3.cell (p := ⟨g2, o2 + 5, none⟩) hg2).trans q3_5
        have hgT2 : g2 ≠ T := by omega
        have HW3 := Lib.hid (And.intro hb3 hP3); clear hb3 hP3 q2 q3 q3_2 q3_3 q3_4 q3_5
        gi_wp2
        refine wpIn_wide.2 ?_
        go_region
        have hP4 : Blk ((((((w3.setCell ⟨T, 5, none⟩ (.int .i64 b.2.kind)).setCell ⟨T, 6, none⟩ (.int .i64 b.2.mode)).setCell ⟨T, 7, none⟩ (.int .u32 b.2.time)).setCell ⟨T, 8, none⟩ (.int .i64 b.2.size)).setCell ⟨T, 9, none⟩ (.int .u32 b.2.sum)).setCell ⟨T, 11, none⟩ (.bool true)).drew T 59 (pCSP (some a.2, some b.2)) := ((((((HW3.out.2.put 5 (.int .i64 b.2.kind)).put 6 (.int .i64 b.2.mode)).put 7 (.int .u32 b.2.time)).put 8 (.int .i64 b.2.size)).put 9 (.int .u32 b.2.sum)).put 11 (.bool true)).drew
        have hb4 : Below wr.heap.size wr ((((((w3.setCell ⟨T, 5, none⟩ (.int .i64 b.2.kind)).setCell ⟨T, 6, none⟩ (.int .i64 b.2.mode)).setCell ⟨T, 7, none⟩ (.int .u32 b.2.time)).setCell ⟨T, 8, none⟩ (.int .i64 b.2.size)).setCell ⟨T, 9, none⟩ (.int .u32 b.2.sum)).setCell ⟨T, 11, none⟩ (.bool true)).drew := ((((((HW3.out.1.setCell (p := ⟨T, 5, none⟩) (by dsimp only; omega) _).setCell (p := ⟨T, 6, none⟩) (by dsimp only; omega) _).setCell (p := ⟨T, 7, none⟩) (by dsimp only; omega) _).setCell (p := ⟨T, 8, none⟩) (by dsimp only; omega) _).setCell (p := ⟨T, 9, none⟩) (by dsimp only; omega) _).setCell (p := ⟨T, 11, none⟩) (by dsimp only; omega) _).drew
        generalize ((((((w3.setCell ⟨T, 5, none⟩ (.int .i64 b.2.kind)).setCell ⟨T, 6, none⟩ (.int .i64 b.2.mode)).setCell ⟨T, 7, none⟩ (.int .u32 b.2.time)).setCell ⟨T, 8, none⟩ (.int .i64 b.2.size)).setCell ⟨T, 9, none⟩ (.int .u32 b.2.sum)).setCell ⟨T, 11, none⟩ (.bool true)).drew = w4 at *
        clear x0 x1 x2 x3 x4 x5 x6 x7 x8 x9 x10 x11 f0 f1 f2 f3 f4 f5 f6 f7 f8 f9 f10 f11 e0 e1 e1_2 e1_3 e1_4 e1_5
        have x0 := hP4.cell 0
        have x1 := hP4.cell 1
        have x2 := hP4.cell 2
        have x3 := hP4.cell 3
        have x4 := hP4.cell 4
        have x5 := hP4.cell 5
        have x6 := hP4.cell 6
        have x7 := hP4.cell 7
        have x8 := hP4.cell 8
        have x9 := hP4.cell 9
        have x10 := hP4.cell 10
        have x11 := hP4.cell 11
        simp [pCSP] at x0 x1 x2 x3 x4 x5 x6 x7 x8 x9 x10 x11
        have hpf : (pre ++ [(b.1, some a.2, some b.2)]) ++ joinL ordS x' y' = joinL ordS xs ys := by rw [← HR.out.1, HJX.out, List.append_assoc]; rfl
        have hy := HY.out pre (b.1, some a.2, some b.2) w4 (HJ.out _ _ _ none HR.out.2.2.2.2.2.1 (grown_below hb4) (fun r h => by cases h)) ⟨_, hpf⟩
        have HZ := Lib.hid (And.intro hpf hb4); clear hpf hb4 hP4
        obtain ⟨fn, tmps, assign, body, hyy, hRY⟩ := hy
        try dsimp only at hyy
        simp only [pCSP, Option.getD, Option.isSome] at hyy hRY
        gi_wp2
        refine hRY.mono ?_
        rintro e W3 (⟨rfl, hJ3, hk3⟩ | ⟨rfl, hJx3⟩)
        · have hKw : ∀ g, JoinK b1 b2 b3 (.slice A1 xs.length d1) (.slice A2 ys.length d2) g → g < wr.heap.size := fun g hg => Nat.lt_of_lt_of_le (HB.out.2.2.2 g hg) HR.out.2.2.2.2.2.2.size
          have hk23 := (KeepP.below HZ.out.2 hKw).trans hk3
          have hLx := HLX.out.drop eCSP_len 1 (by simp) T1 (fun h => by rw [HNX.out.2.2.1 h, Nat.one_mul])
          rw [List.drop_one, List.tail_cons, HNX.out.1] at hLx
          have hLy := HLY.out.drop eCSP_len 1 (by simp) T2 (fun h => by rw [HNY.out.1 h, Nat.one_mul])
          rw [List.drop_one, List.tail_cons, HNX.out.2.1] at hLy
          have hZ2 : JoinAtSP J b1 b2 b3 (.slice A1 xs.length d1) (.slice A2 ys.length d2) xs ys W (.slice (some T1) (nx - 1) (dx - 1)) (.slice (some T2) (ny - 1) (dy - 1)) W3 := by
            refine ⟨pre ++ [(b.1, some a.2, some b.2)], x', y', HZ.out.1, hLx.keptP hk23 (fun g hg => .inr (.inr (.inr (.inl (HR.out.2.1 g (by rw [← hg]; simp [Value.ownBlock, HNX.out.2.2.2])))))), hLy.keptP hk23 (fun g hg => .inr (.inr (.inr (.inr (HR.out.2.2.1 g (by rw [← hg]; simp [Value.ownBlock, HNY.out.2])))))), fun g hg => HR.out.2.1 g (by rw [← hg]; simp [Value.ownBlock, HNX.out.2.2.2]), fun g hg => HR.out.2.2.1 g (by rw [← hg]; simp [Value.ownBlock, HNY.out.2]), fun e he => HR.out.2.2.2.1 e (List.mem_cons_of_mem _ he), fun e he => HR.out.2.2.2.2.1 e (List.mem_cons_of_mem _ he), ?_, ?_, hJ3, HR.out.2.2.2.2.2.2.trans hk23⟩
            · simp only [List.length_cons] at hxl; omega
            · simp only [List.length_cons] at hyl; omega
          have HZ2 := Lib.hid hZ2; clear hZ2 hJ3 hk3 hk23 hLx hLy hKw
          gi_wp2
          go_roundw
          case rel => exact HZ2.out
          case measure => simp [slLenJ]; omega
        · gi_wp2
          refine bodyPost_ret (results_none rfl _ _ _) rfl ?_
          exact ⟨⟨_, rfl⟩, .inr ⟨_, ⟨_, HZ.out.1⟩, hJx3⟩⟩
    · obtain rfl : x = [] := List.length_eq_zero_iff.1 (by omega)
      obtain rfl : y = [] := List.length_eq_zero_iff.1 (by omega)
      have hfin : pre = joinL ordS xs ys := by have := HR.out.1; rwa [joinL_nil, List.append_nil] at this
      have HF := Lib.hid hfin; clear hfin
      simp only [List.length_nil]
      gi_wp2
      go_end0
      exact ⟨⟨_, rfl⟩, .inl ⟨_, rfl, by rw [← HF.out]; exact HR.out.2.2.2.2.2.1⟩⟩
end Go.Proofs.YtjcbjocgachpjaaGreatDoor
