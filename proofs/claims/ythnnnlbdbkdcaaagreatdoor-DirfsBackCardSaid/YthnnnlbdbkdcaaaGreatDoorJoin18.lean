/- Several texts, joined for the limit of sixty files; each one opens with its own comment. -/
import Derived.Test.YthnnnlbdbkdcaaaGreatDoorJoin17
import Derived.Test.YthnnnlbdbkdcaaaGreatDoorJoin11
import Derived.Test.YthnnnlbdbkdcaaaGreatDoorJoin13
import Derived.Test.YthnnnlbdbkdcaaaGreatDoorJoin16
/- dirfs: Get; what is asked of nil; the law's example. -/
set_option linter.unusedVariables false
set_option linter.unusedSimpArgs false
namespace Go.Proofs.YthnnnlbdbkdcaaaGreatDoor
open Go Go.RowKit
open Sw
set_option maxRecDepth 100000 in
set_option maxHeartbeats 4000000 in
theorem dirGet_any (w : World) (bd bt bm : Nat) (s : DS) (p : ByteArray) (h : DirAt w bd bt bm s) (hn : s.xs.length ≤ 1000000) (hp : p.size ≤ 90000) :
    Calls Tryz.prog 28 #[.pointer (some ⟨bd, 0, none⟩), .string p] w fun e w' => e = .returned (.agg (getT s.xs p).c) ∧ Below w.heap.size w w' := by
  have hb0 := (Below.refl w.heap.size w).alloc (Nat.le_refl _) (.cells #[.int .i64 0, .int .i64 0, .int .u32 0, .string ⟨#[]⟩] 30)
  have hB0 := Blk.new w 30 #[.int .i64 0, .int .i64 0, .int .u32 0, .string ⟨#[]⟩]
  have hT := h.below hb0
  have HG := Lib.hid (treeGet_any _ bt bm s.xs p hT.tree hn hp)
  have c0 := hT.box.cell 0
  simp at c0
  have H0 := Lib.hid (And.intro hb0 hB0); clear hb0 hB0 hT h
  obtain ⟨n, hn2⟩ : ∃ n, getT s.xs p = n := ⟨_, rfl⟩
  rw [hn2] at HG
  rw [hn2]
  obtain ⟨kd, md, tm, dt⟩ := n
  unfold Nd.c at *
  simp only at HG ⊢
  clear hn2
  go_enter Tryz.func28, Tryz.ntmps28
  go_wp2_with fail
  refine HG.out.mono ?_
  rintro e w1 ⟨rfl, hb1⟩
  have hB1 := H0.out.2.below hb1 H0.out.2.lt
  have hbw := H0.out.1.trans (hb1.mono H0.out.1.size)
  have x0 := hB1.cell 0
  have x1 := hB1.cell 1
  have x2 := hB1.cell 2
  have x3 := hB1.cell 3
  have f0 := hB1.frozen 0
  have f1 := hB1.frozen 1
  have f2 := hB1.frozen 2
  have f3 := hB1.frozen 3
  simp at x0 x1 x2 x3
  have HF := Lib.hid (And.intro hB1 hbw); clear hB1 hbw hb1
  go_wp2_with fail
  refine bodyPost_ret (v := .agg #[.int .i64 kd, .int .i64 md, .int .u32 tm, .string dt]) (results_cell_row rfl _ _ w.heap.size 30 #[.int .i64 kd, .int .i64 md, .int .u32 tm, .string dt] (0, 0) _ rfl ((((HF.out.1.put 0 (.int .i64 kd)).put 1 (.int .i64 md)).put 2 (.int .u32 tm)).put 3 (.string dt)) Tryz.underlying30 rfl infoVSN) rfl ⟨rfl, ?_⟩
  exact (((HF.out.2.setCell (p := ⟨w.heap.size, 0, none⟩) (Nat.le_refl _) (.int .i64 kd)).setCell (p := ⟨w.heap.size, 1, none⟩) (Nat.le_refl _) (.int .i64 md)).setCell (p := ⟨w.heap.size, 2, none⟩) (Nat.le_refl _) (.int .u32 tm)).setCell (p := ⟨w.heap.size, 3, none⟩) (Nat.le_refl _) (.string dt)
set_option maxRecDepth 100000 in
set_option maxHeartbeats 4000000 in
theorem dirGetNil_any (w : World) (p : ByteArray) :
    Calls Tryz.prog 28 #[.pointer none, .string p] w fun e w' => e = .returned (.agg ndZ.c) ∧ Below w.heap.size w w' := by
  have hb0 := (Below.refl w.heap.size w).alloc (Nat.le_refl _) (.cells #[.int .i64 0, .int .i64 0, .int .u32 0, .string ⟨#[]⟩] 30)
  have hB0 := Blk.new w 30 #[.int .i64 0, .int .i64 0, .int .u32 0, .string ⟨#[]⟩]
  have HF := Lib.hid (And.intro hB0 hb0)
  have x0 := hB0.cell 0
  have x1 := hB0.cell 1
  have x2 := hB0.cell 2
  have x3 := hB0.cell 3
  have f0 := hB0.frozen 0
  have f1 := hB0.frozen 1
  have f2 := hB0.frozen 2
  have f3 := hB0.frozen 3
  simp at x0 x1 x2 x3
  clear hb0 hB0
  unfold ndZ Nd.c
  go_enter Tryz.func28, Tryz.ntmps28
  go_wp2_with fail
  exact bodyPost_ret (v := .agg #[.int .i64 0, .int .i64 0, .int .u32 0, .string ⟨#[]⟩]) (results_cell_row rfl _ _ w.heap.size 30 #[.int .i64 0, .int .i64 0, .int .u32 0, .string ⟨#[]⟩] (0, 0) _ rfl HF.out.1 Tryz.underlying30 rfl infoVSN) rfl ⟨rfl, HF.out.2⟩
set_option maxRecDepth 100000 in
theorem stepNil_any (w : World) (f : Nat) (caps : Array Value) : Calls Tryz.prog 65 #[.pointer none, .func (.func f) #[] caps] w fun e w' => e = .returned (.int .i64 1) ∧ w = w' := by
  go_enter Tryz.func65, Tryz.ntmps65
  go_wp2_with fail
  go_ret
  exact ⟨rfl, rfl⟩
set_option maxRecDepth 100000 in
theorem dirPutNil_any (w : World) (p : ByteArray) (n : Nd) : Calls Tryz.prog 26 #[.pointer none, .string p, .agg n.c] w fun e w' => e = .returned (.int .i64 1) ∧ Below w.heap.size w w' := by
  have HS := Lib.hid (fun W f caps => stepNil_any W f caps)
  have HB := Lib.hid ((((Below.refl w.heap.size w).alloc (Nat.le_refl _) (.cells #[.pointer none] 50)).alloc (by simp) (.cells #[.string p] 9)).alloc (by simp; omega) (.cells n.c 30))
  obtain ⟨kd, md, tm, dt⟩ := n
  simp only [Nd.c] at HB ⊢
  go_enter Tryz.func26, Tryz.ntmps26
  go_wp2_with fail
  refine (HS.out _ _ _).mono ?_
  rintro e _ ⟨rfl, rfl⟩
  go_wp2_with fail
  go_ret
  exact ⟨rfl, HB.out⟩
set_option maxRecDepth 100000 in
theorem dirRemoveNil_any (w : World) (p : ByteArray) : Calls Tryz.prog 33 #[.pointer none, .string p] w fun e w' => e = .returned (.int .i64 1) ∧ Below w.heap.size w w' := by
  have HS := Lib.hid (fun W f caps => stepNil_any W f caps)
  have HB := Lib.hid ((Below.refl w.heap.size w).alloc (Nat.le_refl _) (.cells #[.string p] 9))
  go_enter Tryz.func33, Tryz.ntmps33
  go_wp2_with fail
  refine (HS.out _ _ _).mono ?_
  rintro e _ ⟨rfl, rfl⟩
  go_wp2_with fail
  go_ret
  exact ⟨rfl, HB.out⟩
set_option maxRecDepth 100000 in
theorem dirClearNil_any (w : World) (p : ByteArray) : Calls Tryz.prog 30 #[.pointer none, .string p] w fun e w' => e = .returned (.int .i64 1) ∧ Below w.heap.size w w' := by
  have HS := Lib.hid (fun W f caps => stepNil_any W f caps)
  have HB := Lib.hid ((Below.refl w.heap.size w).alloc (Nat.le_refl _) (.cells #[.string p] 9))
  go_enter Tryz.func30, Tryz.ntmps30
  go_wp2_with fail
  refine (HS.out _ _ _).mono ?_
  rintro e _ ⟨rfl, rfl⟩
  go_wp2_with fail
  go_ret
  exact ⟨rfl, HB.out⟩
set_option maxRecDepth 100000 in
theorem dirRenameNil_any (w : World) (p q : ByteArray) : Calls Tryz.prog 27 #[.pointer none, .string p, .string q] w fun e w' => e = .returned (.int .i64 1) ∧ Below w.heap.size w w' := by
  have HS := Lib.hid (fun W f caps => stepNil_any W f caps)
  have HB := Lib.hid (((Below.refl w.heap.size w).alloc (Nat.le_refl _) (.cells #[.string p] 9)).alloc (by simp) (.cells #[.string q] 9))
  go_enter Tryz.func27, Tryz.ntmps27
  go_wp2_with fail
  refine (HS.out _ _ _).mono ?_
  rintro e _ ⟨rfl, rfl⟩
  go_wp2_with fail
  go_ret
  exact ⟨rfl, HB.out⟩
set_option maxRecDepth 100000 in
theorem dirGraftNil_any (w : World) (p : ByteArray) : Calls Tryz.prog 37 #[.pointer none, .string p, .slice none 0 0] w fun e w' => e = .returned (.int .i64 1) ∧ Below w.heap.size w w' := by
  have HS := Lib.hid (fun W f caps => stepNil_any W f caps)
  have HB := Lib.hid ((((Below.refl w.heap.size w).alloc (Nat.le_refl _) (.cells #[.pointer none] 50)).alloc (by simp) (.cells #[.string p] 9)).alloc (by simp; omega) (.cells #[.slice none 0 0] 22))
  go_enter Tryz.func37, Tryz.ntmps37
  go_wp2_with fail
  refine (HS.out _ _ _).mono ?_
  rintro e _ ⟨rfl, rfl⟩
  go_wp2_with fail
  go_ret
  exact ⟨rfl, HB.out⟩
end Go.Proofs.YthnnnlbdbkdcaaaGreatDoor
/- dirfs: Graft. -/
set_option linter.unusedVariables false
set_option linter.unusedSimpArgs false
namespace Sw
open Go.Proofs.YthnnnlbdbkdcaaaGreatDoor (awayT putT_len)
/-- entries are put, one behind the other, until one may not be -/
def putsT : List NE → List NE → Int × List NE
  | ys, [] => (0, ys)
  | ys, x :: r => if mayT ys x.1 x.2 = 0 then putsT (putT ys x.1 x.2) r else (mayT ys x.1 x.2, ys)
theorem putsT_step (ys : List NE) (L : List NE) (i : Nat) (h : i < L.length) : putsT ys (L.drop i) = if mayT ys L[i].1 L[i].2 = 0 then putsT (putT ys L[i].1 L[i].2) (L.drop (i + 1)) else (mayT ys L[i].1 L[i].2, ys) := by
  rw [List.drop_eq_getElem_cons h]
  rfl
theorem putsT_len : ∀ (L ys : List NE), (putsT ys L).2.length ≤ ys.length + L.length
  | [], ys => Nat.le_refl _
  | x :: L, ys => by
    unfold putsT
    split
    · have h1 := putsT_len L (putT ys x.1 x.2)
      have h2 := putT_len ys x.1 x.2
      simp only [List.length_cons]
      omega
    · simp only [List.length_cons]; omega
theorem putsT_ti : ∀ (L : List NE) {ys : List NE}, TI ys → TI (putsT ys L).2
  | [], ys, h => h
  | x :: L, ys, h => by
    unfold putsT
    split
    · exact putsT_ti L (h.putT x.1 x.2)
    · exact h
def graftW (room : Int) (xs : List NE) (p : ByteArray) (l : List NE) : Int × List NE :=
  if l.any (awayT p) = true then (1, xs) else if (putsT (xs.filter (awayT p)) l).1 = 0 then (fitsW room (putsT (xs.filter (awayT p)) l).2, (putsT (xs.filter (awayT p)) l).2) else putsT (xs.filter (awayT p)) l
end Sw
namespace Go.Proofs.YthnnnlbdbkdcaaaGreatDoor
open Go Go.RowKit
open Sw
set_option maxRecDepth 100000 in
set_option maxHeartbeats 8000000 in
theorem dgraft1_any (w0 w : World) (bd bt bm gl gp gd : Nat) (xs : List NE) (p : ByteArray) (v : Value) (l : List NE) (a c d e : Value) (room : Int) (hb0 : Below w0.heap.size w0 w) (hbm : w0.heap.size ≤ bm) (h : TreeAt w bt bm xs) (hti : TI xs) (hn : xs.length ≤ 1000) (hl : l.length ≤ 1000) (hp : p.size ≤ 90000)
    (hin : ∀ x ∈ l, x.1.size ≤ 90000 ∧ NdIn x.2) (hby : bytesT (putsT (xs.filter (awayT p)) l).2 ≤ 1000000000) (hv : SlV w0 5 eCSN v l)
    (hL : Blk w0 gl 22 #[v]) (hP : Blk w0 gp 9 #[.string p]) (hD : Blk w0 gd 50 #[.pointer (some ⟨bd, 0, none⟩)]) (hB : Blk w0 bd 88 #[a, .int .i64 room, c, d, e]) :
    Calls Tryz.prog 76 #[.pointer (some ⟨bt, 0, none⟩), .pointer (some ⟨gl, 0, none⟩), .pointer (some ⟨gp, 0, none⟩), .pointer (some ⟨gd, 0, none⟩)] w fun e w' => e = .returned (.int .i64 (graftW room xs p l).1) ∧ ((graftW room xs p l).1 = 0 → TreeAt w' bt bm (graftW room xs p l).2) ∧ w.grownBy w' (some bm) := by
  obtain ⟨A, cv, rfl, hc1, hc2, hsl⟩ := hv
  obtain ⟨n, hnl⟩ : ∃ n, l.length = n := ⟨_, rfl⟩
  rw [hnl] at hc1 hL hl
  unfold maxLen at hc2
  have boxes : ∀ W, Below w0.heap.size w0 W → W.cell? ⟨gl, 0, none⟩ = some (.slice A n cv) ∧ W.cell? ⟨gp, 0, none⟩ = some (.string p) ∧ W.cell? ⟨gd, 0, none⟩ = some (.pointer (some ⟨bd, 0, none⟩)) ∧ gl < W.heap.size ∧ gp < W.heap.size ∧ gd < W.heap.size := fun W hb =>
    ⟨(hL.below hb hL.lt).cell 0, (hP.below hb hP.lt).cell 0, (hD.below hb hD.lt).cell 0, (hL.below hb hL.lt).lt, (hP.below hb hP.lt).lt, (hD.below hb hD.lt).lt⟩
  have HS := Lib.hid (And.intro hnl (And.intro hsl (And.intro hin hB)))
  have HBX := Lib.hid boxes
  have HT := Lib.hid (And.intro h (And.intro hb0 hti))
  have HG := Lib.hid (And.intro hby (show graftW room xs p l = (if l.any (awayT p) = true then ((1 : Int), xs) else if (putsT (xs.filter (awayT p)) l).1 = 0 then (fitsW room (putsT (xs.filter (awayT p)) l).2, (putsT (xs.filter (awayT p)) l).2) else putsT (xs.filter (awayT p)) l) from rfl))
  obtain ⟨m1, m2, m3, m4, m5, m6⟩ := boxes w hb0
  clear hnl hsl hin hB boxes h hb0 hL hP hD hti hby
  generalize graftW room xs p l = R at *
  go_enter Tryz.func76, Tryz.ntmps76
  go_wp2_with fail
  clear m1 m2 m3 m4 m5 m6
  go_loopw [13] (fun iv wr => ∃ i : Nat, i ≤ n ∧ iv = .int .i64 i ∧ (∀ k (hk : k < l.length), k < i → awayT p l[k] = false) ∧ Below w.heap.size w wr) (fun iv _ => n - (intOf iv).toNat)
  case atStart => exact ⟨0, Nat.zero_le _, rfl, fun k _ h => absurd h (Nat.not_lt_zero _), Below.refl _ _⟩
  case round =>
    obtain ⟨i, hi, rfl, hall, hb⟩ := hrel
    have hbw := HT.out.2.1.trans (hb.mono HT.out.2.1.size)
    obtain ⟨m1, m2, m3, m4, m5, m6⟩ := HBX.out wr hbw
    have HA := Lib.hid hall; clear hall
    by_cases hlt : i < n
    · have hiL : i < l.length := by rw [HS.out.1]; exact hlt
      obtain ⟨b, off, rfl, hbb, hcs⟩ := (HS.out.2.1.below hbw (Nat.le_refl _)) (by omega)
      have c0 := hcs i hiL 0 (by omega)
      have c1 := hcs i hiL 1 (by omega)
      have c2 := hcs i hiL 2 (by omega)
      have c3' := hcs i hiL 3 (by omega)
      have c4 := hcs i hiL 4 (by omega)
      simp only [eCSN, List.getElem?_cons_succ, List.getElem?_cons_zero, Nat.add_zero] at c0 c1 c2 c3' c4
      clear hcs
      have hi1 : (i : Int) < n := by omega
      have hq := (HS.out.2.2.1 l[i] (List.getElem_mem hiL)).1
      have haw : awayT p l[i] = (!decide (l[i].1 = p) && !inS (upsS l[i].1) p) := rfl
      have hany : awayT p l[i] = true → l.any (awayT p) = true := fun h => List.any_eq_true.2 ⟨_, List.getElem_mem hiL, h⟩
      have HN := Lib.hid (show awayT p l[i] = false → ∀ k (hk : k < l.length), k < i + 1 → awayT p l[k] = false from fun h k hk hki => by
        by_cases e : k = i
        · subst e; exact h
        · exact HA.out k hk (by omega))
      obtain ⟨x, hx⟩ : ∃ x, l[i] = x := ⟨_, rfl⟩
      rw [hx] at HN hany haw
      simp only [hx] at c0 c1 c2 c3' c4 hq
      clear hx
      have hse := str_eq x.1 p
      have hba := (Below.refl wr.heap.size wr).alloc (Nat.le_refl _) (.cells #[.string x.1, .int .i64 x.2.kind, .int .i64 x.2.mode, .int .u32 x.2.time, .string x.2.data] 32)
      have HB := Lib.hid (hb.trans (hba.mono hb.size))
      obtain ⟨q1, q2, q3, q4, q5, q6⟩ := HBX.out _ (hbw.trans (hba.mono hbw.size))
      have HU := Lib.hid (fun W => under_any W p x.1 (by omega))
      have HW := Lib.hid (And.intro haw hany)
      clear hba hb hbw haw hany
      by_cases hxp : x.1 = p
      · rw [decide_eq_true hxp] at hse
        have hse2 : (!(x.1.toList == p.toList)) = false := by rw [hse]; rfl
        have HF := Lib.hid (HN.out (by rw [HW.out.1, decide_eq_true hxp]; rfl))
        clear hxp
        go_wp2_with fail
        go_roundw
        case rel => exact ⟨i + 1, by omega, by go_num, HF.out, HB.out⟩
        case measure => simp [intOf]; omega
      · rw [decide_eq_false hxp] at hse
        have hse2 : (!(x.1.toList == p.toList)) = true := by rw [hse]; rfl
        have HX := Lib.hid (show awayT p x = !inS (upsS x.1) p from by rw [HW.out.1, decide_eq_false hxp]; rfl)
        generalize inS (upsS x.1) p = Q at *
        clear hxp
        go_wp2_with fail
        refine (HU.out _).mono ?_
        rintro e1 w2 ⟨rfl, hb2⟩
        have HB2 := Lib.hid (HB.out.trans (hb2.mono HB.out.size)); clear hb2
        cases Q with
        | true =>
          have HF := Lib.hid (HN.out (by rw [HX.out]; rfl))
          go_wp2_with fail
          go_roundw
          case rel => exact ⟨i + 1, by omega, by go_num, HF.out, HB2.out⟩
          case measure => simp [intOf]; omega
        | false =>
          have HF := Lib.hid (show R = (1, xs) from by rw [HG.out.2, if_pos (HW.out.2 (by rw [HX.out]; rfl))])
          go_wp2_with fail
          go_ret
          rw [HF.out]
          exact ⟨rfl, fun h => absurd h (by simp), grown_below HB2.out⟩
    · obtain rfl : n = i := by omega
      have hno : ¬ l.any (awayT p) = true := fun h => by
        obtain ⟨x, hx, hxa⟩ := List.any_eq_true.1 h
        obtain ⟨k, hk, rfl⟩ := List.mem_iff_getElem.1 hx
        rw [HA.out k hk (by rw [← HS.out.1]; exact hk)] at hxa
        cases hxa
      have hR := HG.out.2
      rw [if_neg hno] at hR
      have HEM := Lib.hid (emptied_any wr bt bm xs p (HT.out.1.below hb) HT.out.2.2 hn hp)
      have HR := Lib.hid (And.intro hR (And.intro hbw (grown_below hb : w.grownBy wr (some bm)))); clear hR hbw hb hno HA
      go_wp2_with fail
      refine HEM.out.mono ?_
      rintro e1 w2 ⟨rfl, ht2, hg2⟩
      have hb2 : Below w0.heap.size w0 w2 := below_grown HR.out.2.1 hg2 hbm HR.out.2.1.size
      obtain ⟨q1, q2, q3, q4, q5, q6⟩ := HBX.out w2 hb2
      obtain ⟨base, hbase⟩ : ∃ base, xs.filter (awayT p) = base := ⟨_, rfl⟩
      have hbl : base.length ≤ 1000 := by rw [← hbase]; exact Nat.le_trans (List.length_filter_le _ _) hn
      have hby := HG.out.1
      rw [hbase] at ht2 HR hby
      have H2 := Lib.hid (And.intro ht2 (And.intro hb2 (And.intro (grown_trans HR.out.2.2 hg2) hby))); clear ht2 hb2 hg2 hbase hby HEM m1 m2 m3 m4 m5 m6 HG
      obtain ⟨wo, hwo⟩ : ∃ wo, wo = wr := ⟨_, rfl⟩
      rw [← hwo] at HR
      clear hwo wr
      go_wp2_with fail
      clear q1 q2 q3 q4 q5 q6
      go_loopw [34] (fun iv wr => ∃ (i : Nat) (ys : List NE), i ≤ n ∧ iv = .int .i64 i ∧ TreeAt wr bt bm ys ∧ putsT base l = putsT ys (l.drop i) ∧ ys.length ≤ 1000 + i ∧ Below w0.heap.size w0 wr ∧ w.grownBy wr (some bm)) (fun iv _ => n - (intOf iv).toNat)
      case atStart => exact ⟨0, base, Nat.zero_le _, rfl, H2.out.1, by rw [List.drop_zero], by omega, H2.out.2.1, H2.out.2.2.1⟩
      case round =>
        obtain ⟨i, ys, hi, rfl, ht, hps, hyl, hbw, hg⟩ := hrel
        by_cases hlt : i < n
        · have hiL : i < l.length := by rw [HS.out.1]; exact hlt
          obtain ⟨b, off, rfl, hbb, hcs⟩ := (HS.out.2.1.below hbw (Nat.le_refl _)) (by omega)
          have c0 := hcs i hiL 0 (by omega)
          have c1 := hcs i hiL 1 (by omega)
          have c2 := hcs i hiL 2 (by omega)
          have c3' := hcs i hiL 3 (by omega)
          have c4 := hcs i hiL 4 (by omega)
          simp only [eCSN, List.getElem?_cons_succ, List.getElem?_cons_zero, Nat.add_zero] at c0 c1 c2 c3' c4
          clear hcs
          have hi1 : (i : Int) < n := by omega
          obtain ⟨hq, hni⟩ := HS.out.2.2.1 l[i] (List.getElem_mem hiL)
          have hst := putsT_step ys l i hiL
          obtain ⟨⟨q, kd, md, tm, dt⟩, hx⟩ : ∃ x, l[i] = x := ⟨_, rfl⟩
          simp only [hx] at c0 c1 c2 c3' c4 hq hni hst
          clear hx
          have hba := (Below.refl wr.heap.size wr).alloc (Nat.le_refl _) (.cells #[.string q, .int .i64 kd, .int .i64 md, .int .u32 tm, .string dt] 32)
          have HP := Lib.hid (treePut_any _ bt bm ys q ⟨kd, md, tm, dt⟩ (ht.below hba) (by omega) (by omega) (by
            rcases parent_last q with ⟨_, h⟩ | ⟨h, he, _⟩
            · rw [h]; decide
            · rw [← he, List.getLast_eq_getElem]; have := (ups_step q _ (by have := List.length_pos_iff.2 h; omega : (upsS q).length - 1 < (upsS q).length)).2.1; omega) hni)
          have hpl := putT_len ys q ⟨kd, md, tm, dt⟩
          have HQ := Lib.hid (And.intro (hps.trans hst) (And.intro (hbw.trans (hba.mono hbw.size)) (grown_trans hg (grown_below hba)))); clear hba ht hps hst hbw hg
          generalize mayT ys q ⟨kd, md, tm, dt⟩ = why at *
          generalize putT ys q ⟨kd, md, tm, dt⟩ = zs at *
          simp only [Nd.c] at HP
          go_wp2_with fail
          refine HP.out.mono ?_
          rintro e1 w3 ⟨rfl, ht3, hg3⟩
          have H3 := Lib.hid (And.intro ht3 (And.intro (below_grown HQ.out.2.1 hg3 hbm HQ.out.2.1.size) (grown_trans HQ.out.2.2 hg3))); clear ht3 hg3 HP
          by_cases hw : why = 0
          · have hwe : (why != 0) = false := by rw [hw]; rfl
            have HF := Lib.hid (show putsT base l = putsT zs (l.drop (i + 1)) from by rw [HQ.out.1, if_pos hw]); clear hw
            go_wp2_with fail
            go_roundw
            case rel => exact ⟨i + 1, zs, by omega, by go_num, H3.out.1, HF.out, by omega, H3.out.2.1, H3.out.2.2⟩
            case measure => simp [intOf]; omega
          · have hwe : (why != 0) = true := by rw [bne_iff_ne]; exact hw
            have HF := Lib.hid (show R = (why, ys) from by rw [HR.out.1, HQ.out.1, if_neg hw, if_neg hw])
            have HW2 := Lib.hid hw; clear hw
            go_wp2_with fail
            go_ret
            rw [HF.out]
            exact ⟨rfl, fun h => absurd h HW2.out, H3.out.2.2⟩
        · obtain rfl : n = i := by omega
          rw [List.drop_of_length_le (by rw [HS.out.1]; omega)] at hps
          have hps' : putsT base l = (0, ys) := hps
          have hR : R = (fitsW room ys, ys) := by rw [HR.out.1, hps', if_pos rfl]
          have hby : bytesT ys ≤ 1000000000 := by have := H2.out.2.2.2; rw [hps'] at this; exact this
          obtain ⟨q1, q2, q3, q4, q5, q6⟩ := HBX.out wr hbw
          have HFT := Lib.hid (fits_any wr bd bt bm ys a c d e room (HS.out.2.2.2.below hbw HS.out.2.2.2.lt) ht (by omega) hby)
          have HZ := Lib.hid (And.intro hR (And.intro ht hg)); clear hR ht hg hps hps' hby hbw
          go_wp2_with fail
          refine HFT.out.mono ?_
          rintro e1 w4 ⟨rfl, hb4⟩
          have HF := Lib.hid (And.intro (HZ.out.2.1.below hb4) (grown_trans HZ.out.2.2 (grown_below hb4))); clear hb4 HFT
          go_wp2_with fail
          go_ret
          rw [HZ.out.1]
          exact ⟨rfl, fun _ => HF.out.1, HF.out.2⟩
set_option maxRecDepth 100000 in
set_option maxHeartbeats 4000000 in
theorem dirGraft_any (w : World) (bd bt bm : Nat) (s : DS) (k : Nat) (p : ByteArray) (v : Value) (l : List NE) (h : DirAt w bd bt bm s) (hti : TI s.xs) (hok : s.Ok k) (hk : k ≤ 1000) (hn : s.xs.length ≤ 1000) (hl : l.length ≤ 1000) (hp : p.size ≤ 90000)
    (hin : ∀ x ∈ l, x.1.size ≤ 90000 ∧ NdIn x.2) (hby : bytesT (putsT (s.xs.filter (awayT p)) l).2 ≤ 1000000000) (hv : SlV w 5 eCSN v l) :
    Calls Tryz.prog 37 #[.pointer (some ⟨bd, 0, none⟩), .string p, v] w fun e w' => e = .returned (.int .i64 (stepD s (graftW s.room s.xs p l).1 (graftW s.room s.xs p l).2).1) ∧ (∃ bt' bm', DirAt w' bd bt' bm' (stepD s (graftW s.room s.xs p l).1 (graftW s.room s.xs p l).2).2) ∧ w.grownBy w' (some bd) := by
  have hb1 := (Below.refl w.heap.size w).alloc (Nat.le_refl _) (.cells #[.pointer (some ⟨bd, 0, none⟩)] 50)
  have hD1 := Blk.new w 50 #[.pointer (some ⟨bd, 0, none⟩)]
  obtain ⟨w1, hw1⟩ : ∃ w1, w.alloc (.cells #[.pointer (some ⟨bd, 0, none⟩)] 50) = w1 := ⟨_, rfl⟩
  obtain ⟨gd, hgd⟩ : ∃ gd, w.heap.size = gd := ⟨_, rfl⟩
  rw [hw1] at hb1 hD1
  rw [hgd] at hD1
  have hb2 := (Below.refl w1.heap.size w1).alloc (Nat.le_refl _) (.cells #[.string p] 9)
  have hP1 := Blk.new w1 9 #[.string p]
  obtain ⟨w2, hw2⟩ : ∃ w2, w1.alloc (.cells #[.string p] 9) = w2 := ⟨_, rfl⟩
  obtain ⟨gp, hgp⟩ : ∃ gp, w1.heap.size = gp := ⟨_, rfl⟩
  rw [hw2] at hb2 hP1
  rw [hgp] at hP1
  have hb3 := (Below.refl w2.heap.size w2).alloc (Nat.le_refl _) (.cells #[v] 22)
  have hN1 := Blk.new w2 22 #[v]
  obtain ⟨w3, hw3⟩ : ∃ w3, w2.alloc (.cells #[v] 22) = w3 := ⟨_, rfl⟩
  obtain ⟨gl, hgl⟩ : ∃ gl, w2.heap.size = gl := ⟨_, rfl⟩
  rw [hw3] at hb3 hN1
  rw [hgl] at hN1
  have hb13 := hb2.trans (hb3.mono hb2.size)
  have hbw := hb1.trans (hb13.mono hb1.size)
  have hD3 := hD1.below hb13 hD1.lt
  have hP3 := hP1.below hb3 hP1.lt
  have hd := h.below hbw
  have hv3 := hv.below hbw (Nat.le_refl _)
  have HG := Lib.hid (grown_below hbw : w.grownBy w3 (some bd))
  have HST := Lib.hid (step_any w3 bd bt bm 76 #[.pointer (some ⟨gl, 0, none⟩), .pointer (some ⟨gp, 0, none⟩), .pointer (some ⟨gd, 0, none⟩)] s k (graftW s.room s.xs p l).1 (graftW s.room s.xs p l).2 hd hok hk (enters_of Tryz.func76 (by kernel_rfl) rfl)
    (fun W bt' bm' hb ht hbm => dgraft1_any w3 W bd bt' bm' gl gp gd s.xs p v l _ _ _ _ s.room hb hbm ht hti hn hl hp hin hby hv3 hN1 hP3 hD3 hd.box))
  have x0 := hD3.cell 0
  simp at x0
  have e1 : gd + 1 = gp := by rw [← hgp, ← hw1, ← hgd]; simp
  have e2 : gp + 1 = gl := by rw [← hgl, ← hw2, ← hgp]; simp
  have HWW := Lib.hid (And.intro hw1 (And.intro hw2 (And.intro hw3 (And.intro hgd (And.intro e1 e2)))))
  obtain ⟨A, c, rfl, _, _, _⟩ := hv
  clear hw1 hw2 hw3 hgd hgp hgl e1 e2 hb1 hb2 hb3 hD1 hP1 hN1 hb13 hbw hD3 hP3 hd h hok hin hby hv3 hti
  generalize stepD s (graftW s.room s.xs p l).1 (graftW s.room s.xs p l).2 = R at *
  obtain ⟨nl, hnl⟩ : ∃ nl, l.length = nl := ⟨_, rfl⟩
  rw [hnl] at HWW
  rw [hnl]
  clear hnl
  go_enter Tryz.func37, Tryz.ntmps37
  go_wp2_with fail
  rw [HWW.out.1, HWW.out.2.1, HWW.out.2.2.1, HWW.out.2.2.2.1, HWW.out.2.2.2.2.1, HWW.out.2.2.2.2.2]
  refine HST.out.mono ?_
  rintro e w4 ⟨rfl, ⟨bt', bm', hd4⟩, hg4⟩
  have HF := Lib.hid (And.intro hd4 (grown_trans HG.out hg4)); clear hd4 hg4 HST
  go_wp2_with fail
  go_ret
  exact ⟨rfl, ⟨bt', bm', HF.out.1⟩, HF.out.2⟩
end Go.Proofs.YthnnnlbdbkdcaaaGreatDoor
/- The reference's Whole in general, Of and Right. -/
set_option linter.unusedVariables false
set_option linter.unusedSimpArgs false
namespace Sw
open Go
open Go.Proofs.YthnnnlbdbkdcaaaGreatDoor (awayT undT putT_len)
theorem put_end {xs : List NE} {p : ByteArray} (h : ∀ e ∈ xs, ordS e.1 p < 0) (n : Nd) (hu : Up ordS xs) : putN ordS p n xs = xs ++ [(p, n)] := by
  rw [put_filter ordS_ord p n xs hu, List.filter_eq_self.2 (fun e he => by simpa using h e he), List.filter_eq_nil_iff.2 (fun e he => by have := h e he; simp; omega)]
/-- the next entry of a tree's row may be put -/
theorem may_next {xs pre r : List NE} {x : NE} (h : TI xs) (hl : xs.length ≤ 500) (hx : xs = pre ++ x :: r) : mayT pre x.1 x.2 = 0 ∧ putT pre x.1 x.2 = pre ++ [x] := by
  have hxm : x ∈ xs := by rw [hx]; simp
  have hup := h.up
  rw [hx] at hup
  have hpx : ∀ e ∈ pre, ordS e.1 x.1 < 0 := fun e he => (List.pairwise_append.1 hup).2.2 e he x (List.mem_cons_self ..)
  have hpu : Up ordS pre := (List.pairwise_append.1 hup).1
  have hpm : ∀ e ∈ pre, e ∈ xs := fun e he => by rw [hx]; exact List.mem_append_left _ he
  have hlen : pre.length < 500 := by have := congrArg List.length hx; simp at this; omega
  have hm : mayT pre x.1 x.2 = 0 := by
    refine may_of (h.paths x hxm) (h.nod x hxm).1 (h.nod x hxm).2 (parentT_of ?_) (.inr (holds_no hpu (fun e he => h.paths e (hpm e he)) fun e he hq => ?_)) (fun _ => hlen)
    · rcases parent_last x.1 with ⟨_, h0⟩ | ⟨hne, hlast, h0⟩
      · exact .inl h0
      · right
        have hpm2 : parentS x.1 ∈ upsS x.1 := by rw [← hlast]; exact List.getLast_mem hne
        obtain ⟨d, hd1, hd2, hd3⟩ := h.par x hxm _ hpm2
        have hdp : d ∈ pre := by
          have hd := hd1
          rw [hx] at hd
          rcases List.mem_append.1 hd with hd | hd
          · exact hd
          · exfalso
            have ho := ups_order hpm2
            rw [← hd2] at ho
            rcases List.mem_cons.1 hd with rfl | hd
            · rw [ordS_refl] at ho; omega
            · have := (List.pairwise_cons.1 (List.pairwise_append.1 hup).2.1).1 d hd
              have hn := ordS_neg x.1 d.1
              omega
        rw [← hd2, getT_in hpu hdp]
        exact hd3
    · have ho := ups_order hq
      have h1 := hpx e he
      have hn := ordS_neg e.1 x.1
      omega
  have hput : putT pre x.1 x.2 = pre ++ [x] := by unfold putT; rw [if_pos hm, put_end hpx x.2 hpu]
  exact ⟨hm, hput⟩
/-- a tree's row is put as it stands -/
theorem puts_self {xs : List NE} (h : TI xs) (hl : xs.length ≤ 500) : putsT [] xs = (0, xs) := by
  have key : ∀ (r pre : List NE), xs = pre ++ r → putsT pre r = (0, xs) := by
    intro r
    induction r with
    | nil => intro pre hx; rw [hx, List.append_nil]; rfl
    | cons x r ih =>
      intro pre hx
      obtain ⟨hm, hput⟩ := may_next h hl hx
      show putsT pre (x :: r) = _
      unfold putsT
      rw [if_pos hm, hput]
      exact ih (pre ++ [x]) (by rw [hx]; simp)
  exact key xs [] rfl
theorem may_take {xs : List NE} (h : TI xs) (hl : xs.length ≤ 500) (i : Nat) (hi : i < xs.length) : mayT (xs.take i) xs[i].1 xs[i].2 = 0 ∧ putT (xs.take i) xs[i].1 xs[i].2 = xs.take (i + 1) := by
  obtain ⟨h1, h2⟩ := may_next h hl (pre := xs.take i) (x := xs[i]) (r := xs.drop (i + 1)) (by rw [← List.drop_eq_getElem_cons hi, List.take_append_drop])
  exact ⟨h1, by rw [h2, List.take_succ_eq_append_getElem hi]⟩
/-- behind a clearing nothing is at a path, nor under it -/
theorem clear_after {xs : List NE} (h : TI xs) (p : ByteArray) : (clearW xs p = 0 → getT (xs.filter (awayT p)) p = ndZ ∧ undT p (xs.filter (awayT p)) = []) ∧ (¬ clearW xs p = 0 → getT xs p = ndZ ∧ undT p xs = []) := by
  refine ⟨fun _ => ⟨getT_out (h.up.filter _) fun e he hk => ?_, ?_⟩, fun hc => ?_⟩
  · exact ((away_iff p e).1 (List.mem_filter.1 he).2).1 hk
  · refine List.eq_nil_iff_forall_not_mem.2 fun e he => ?_
    obtain ⟨h1, h2⟩ := (und_iff p _ e).1 he
    obtain ⟨h3, h4⟩ := (away_iff p e).1 (List.mem_filter.1 h1).2
    exact h2.elim h3 h4
  · have hk : (getT xs p).kind = 0 := by
      unfold clearW at hc
      by_cases h0 : (getT xs p).kind = 0
      · exact h0
      · rw [if_neg h0] at hc; exact absurd rfl hc
    have hno : ∀ e ∈ xs, ¬ e.1 = p := fun e he e' => by
      have := getT_in h.up he
      rw [e'] at this
      rw [this] at hk
      exact (h.nod e he).1 hk
    refine ⟨getT_out h.up hno, List.eq_nil_iff_forall_not_mem.2 fun e he => ?_⟩
    obtain ⟨h1, h2⟩ := (und_iff p _ e).1 he
    rcases h2 with h2 | h2
    · exact hno e h1 h2
    · obtain ⟨d, hd1, hd2, _⟩ := h.par e h1 p h2
      exact hno d hd1 hd2
/-- a row that the reference calls a tree is one -/
theorem ti_of_puts {l : List NE} (h : (putsT [] l).2 = l) : TI l := by
  rw [← h]
  exact putsT_ti l TI.nil
end Sw
namespace Go.Proofs.YthnnnlbdbkdcaaaGreatDoor
open Go Go.RowKit
open Sw
theorem nd_ext {a b : Nd} (h1 : a.kind = b.kind) (h2 : a.mode = b.mode) (h3 : a.time = b.time) (h4 : a.data = b.data) : a = b := by
  cases a; cases b; simp_all
theorem item_ne {a a' : ByteArray} {k m t k' m' t' : Int} {d d' : ByteArray} (h : ¬ ((a, (⟨k, m, t, d⟩ : Nd)) : NE) = (a', ⟨k', m', t', d'⟩)) :
    ¬ a.toList = a'.toList ∨ (a = a' ∧ ¬ k = k') ∨ (a = a' ∧ k = k' ∧ ¬ m = m') ∨ (a = a' ∧ k = k' ∧ m = m' ∧ ¬ t = t') ∨ (a = a' ∧ k = k' ∧ m = m' ∧ t = t' ∧ ¬ d.toList = d'.toList) := by
  have hd : ∀ x y : ByteArray, x.toList = y.toList → x = y := fun x y h => by rw [ByteArray.toList_eq, ByteArray.toList_eq] at h; exact dat_inj h
  by_cases h1 : a.toList = a'.toList
  · have e1 := hd _ _ h1
    by_cases h2 : k = k'
    · by_cases h3 : m = m'
      · by_cases h4 : t = t'
        · by_cases h5 : d.toList = d'.toList
          · have e5 := hd _ _ h5
            subst e1 h2 h3 h4 e5
            exact absurd rfl h
          · exact .inr (.inr (.inr (.inr ⟨e1, h2, h3, h4, h5⟩)))
        · exact .inr (.inr (.inr (.inl ⟨e1, h2, h3, h4⟩)))
      · exact .inr (.inr (.inl ⟨e1, h2, h3⟩))
    · exact .inr (.inl ⟨e1, h2⟩)
  · exact .inl h1
set_option maxRecDepth 100000 in
set_option maxHeartbeats 4000000 in
theorem ref16Whole_any (w : World) (u v : Value) (l m : List NE) (hu : SlV w 5 eCSN u l) (hv : SlV w 5 eCSN v m) :
    Calls Tryz.prog 19 #[u, v] w fun e w' => ∃ R : Bool, e = .returned (.bool R) ∧ (R = true ↔ l = m) ∧ Below w.heap.size w w' := by
  obtain ⟨A1, c1, rfl, hc11, hc12, hsl1⟩ := hu
  obtain ⟨A2, c2, rfl, hc21, hc22, hsl2⟩ := hv
  obtain ⟨n, hn⟩ : ∃ n, l.length = n := ⟨_, rfl⟩
  obtain ⟨n2, hn2⟩ : ∃ n2, m.length = n2 := ⟨_, rfl⟩
  rw [hn] at hc11 ⊢
  rw [hn2] at hc21 ⊢
  unfold maxLen at hc12 hc22
  have HL := Lib.hid (And.intro hn hn2); clear hn hn2
  have H1 := Lib.hid hsl1; clear hsl1
  have H2 := Lib.hid hsl2; clear hsl2
  by_cases hnn : n = n2
  · obtain rfl := hnn
    go_enter Tryz.func19, Tryz.ntmps19
    go_wp2_with fail
    go_loopw [13] (fun iv wr => ∃ i : Nat, i ≤ n ∧ iv = .int .i64 i ∧ (∀ k (hk : k < l.length) (hk2 : k < m.length), k < i → l[k] = m[k]) ∧ Below w.heap.size w wr) (fun iv _ => n - (intOf iv).toNat)
    case atStart => exact ⟨0, Nat.zero_le _, rfl, fun k _ _ h => absurd h (Nat.not_lt_zero _), Below.refl _ _⟩
    case round =>
      obtain ⟨i, hi, rfl, hall, hb⟩ := hrel
      have HA := Lib.hid hall; clear hall
      by_cases hlt : i < n
      · have hiL : i < l.length := by have := HL.out.1; omega
        have hiM : i < m.length := by have := HL.out.2; omega
        obtain ⟨b1, off1, rfl, hbb1, hcs1⟩ := (H1.out.below hb (Nat.le_refl _)) (by omega)
        obtain ⟨b2, off2, rfl, hbb2, hcs2⟩ := (H2.out.below hb (Nat.le_refl _)) (by omega)
        have c0 := hcs1 i hiL 0 (by omega)
        have c1' := hcs1 i hiL 1 (by omega)
        have c2' := hcs1 i hiL 2 (by omega)
        have c3' := hcs1 i hiL 3 (by omega)
        have c4 := hcs1 i hiL 4 (by omega)
        have d0 := hcs2 i hiM 0 (by omega)
        have d1 := hcs2 i hiM 1 (by omega)
        have d2 := hcs2 i hiM 2 (by omega)
        have d3 := hcs2 i hiM 3 (by omega)
        have d4 := hcs2 i hiM 4 (by omega)
        simp only [eCSN, List.getElem?_cons_succ, List.getElem?_cons_zero, Nat.add_zero] at c0 c1' c2' c3' c4 d0 d1 d2 d3 d4
        clear hcs1 hcs2
        have hi1 : (i : Int) < n := by omega
        have HT := Lib.hid (show l[i] = m[i] → ∀ k (hk : k < l.length) (hk2 : k < m.length), k < i + 1 → l[k] = m[k] from fun h k hk hk2 hki => by
          by_cases e : k = i
          · subst e; exact h
          · exact HA.out k hk hk2 (by omega))
        have HF := Lib.hid (show ¬ l[i] = m[i] → ¬ l = m from fun h e => h (by simp only [e]))
        obtain ⟨x, hx⟩ : ∃ x, l[i] = x := ⟨_, rfl⟩
        obtain ⟨y, hy⟩ : ∃ y, m[i] = y := ⟨_, rfl⟩
        rw [hx, hy] at HT HF
        simp only [hx] at c0 c1' c2' c3' c4
        simp only [hy] at d0 d1 d2 d3 d4
        clear hx hy
        have HB := Lib.hid hb; clear hb
        by_cases hxy : x = y
        · subst hxy
          have HT2 := Lib.hid (HT.out rfl)
          go_wp2_with fail
          go_region
          go_wp2_with fail
          go_roundw
          case rel => exact ⟨i + 1, by omega, by go_num, HT2.out, HB.out.drew⟩
          case measure => simp [intOf]; omega
        · have HF2 := Lib.hid (HF.out hxy)
          obtain ⟨a, ⟨k, mo, t, d⟩⟩ := x
          obtain ⟨a', ⟨k', mo', t', d'⟩⟩ := y
          simp only at c0 c1' c2' c3' c4 d0 d1 d2 d3 d4
          have hne := item_ne hxy
          clear hxy HT HF
          rcases hne with hne | ⟨rfl, hne⟩ | ⟨rfl, rfl, hne⟩ | ⟨rfl, rfl, rfl, hne⟩ | ⟨rfl, rfl, rfl, rfl, hne⟩
          all_goals
            go_wp2_with fail
            go_region
            go_wp2_with fail
            go_ret
            exact ⟨false, rfl, ⟨fun h => (by cases h), fun h => absurd h HF2.out⟩, HB.out.drew⟩
      · obtain rfl : i = n := by omega
        have hlm : l = m := List.ext_getElem (by rw [HL.out.1, HL.out.2]) fun k h1 h2 => HA.out k h1 h2 (by rw [← HL.out.1]; exact h1)
        have HB := Lib.hid (And.intro hb hlm); clear hb hlm
        go_wp2_with fail
        go_ret
        exact ⟨true, rfl, ⟨fun _ => HB.out.2, fun _ => rfl⟩, HB.out.1⟩
  · have hne : ((n : Int) != n2) = true := by rw [bne_iff_ne]; omega
    have HN := Lib.hid (show ¬ l = m from fun e => hnn (by rw [← HL.out.1, ← HL.out.2, e])); clear hnn
    go_enter Tryz.func19, Tryz.ntmps19
    go_wp2_with fail
    go_ret
    exact ⟨false, rfl, ⟨fun h => (by cases h), fun h => absurd h HN.out⟩, Below.refl _ _⟩
theorem putsT_paths : ∀ (L : List NE) {ys : List NE}, Up ordS ys → Paths ys → (∀ e ∈ ys, e.1.size ≤ 90000) → (∀ e ∈ L, e.1.size ≤ 90000) → Up ordS (putsT ys L).2 ∧ Paths (putsT ys L).2 ∧ ∀ e ∈ (putsT ys L).2, e.1.size ≤ 90000
  | [], ys, h1, h2, h3, _ => ⟨h1, h2, h3⟩
  | x :: L, ys, h1, h2, h3, h4 => by
    unfold putsT
    split
    · rename_i hm
      refine putsT_paths L ?_ (h2.ofPut x.1 x.2) (fun e he => ?_) (fun e he => h4 e (List.mem_cons_of_mem _ he))
      · unfold putT; rw [if_pos hm]; exact put_up ordS_ord _ _ _ h1
      · unfold putT at he
        rw [if_pos hm] at he
        rcases put_mem x.1 x.2 ys e he with rfl | he
        · exact h4 x (List.mem_cons_self ..)
        · exact h3 e he
    · exact ⟨h1, h2, h3⟩
set_option maxRecDepth 100000 in
set_option maxHeartbeats 4000000 in
theorem ref16Of_any (w : World) (v : Value) (l : List NE) (h : SlV w 5 eCSN v l) (hl : l.length ≤ 500) (hin : ∀ x ∈ l, x.1.size ≤ 90000 ∧ NdIn x.2) :
    Calls Tryz.prog 64 #[v] w fun e w' => ∃ A j c, ∃ k : Int, e = .returned (.tuple #[.slice A j c, .int .i64 k, .int .i64 (putsT [] l).1]) ∧ ((putsT [] l).1 = 0 → OwnIt w' w.heap.size (.slice A j c) (putsT [] l).2) ∧ Below w.heap.size w w' := by
  obtain ⟨A, c, rfl, hc1, hc2, hsl⟩ := h
  obtain ⟨n, hn⟩ : ∃ n, l.length = n := ⟨_, rfl⟩
  rw [hn] at hc1 hl ⊢
  unfold maxLen at hc2
  have HL := Lib.hid (And.intro hn (And.intro hsl hin)); clear hn hsl hin
  go_enter Tryz.func64, Tryz.ntmps64
  go_wp2_with fail
  go_loopw [5, 12] (fun ov iv wr => ∃ (i : Nat) (ys : List NE), i ≤ n ∧ iv = .int .i64 i ∧ OwnIt wr w.heap.size ov ys ∧ putsT [] l = putsT ys (l.drop i) ∧ ys.length ≤ i ∧ Up ordS ys ∧ Paths ys ∧ (∀ e ∈ ys, e.1.size ≤ 90000) ∧ Below w.heap.size w wr) (fun _ iv _ => n - (intOf iv).toNat)
  case atStart => exact ⟨0, [], Nat.zero_le _, rfl, World.ownsRow_nil _ _ _ _, by rw [List.drop_zero], Nat.le_refl _, List.Pairwise.nil, fun _ h => absurd h (by simp), fun _ h => absurd h (by simp), Below.refl _ _⟩
  case round =>
    obtain ⟨i, ys, hi, rfl, ho, hps, hyl, hyu, hyp, hyo, hb⟩ := hrel
    obtain ⟨A5, c5, rfl, _, _, _⟩ := SlV_of_any ho
    by_cases hlt : i < n
    · have hiL : i < l.length := by rw [HL.out.1]; exact hlt
      obtain ⟨b, off, rfl, hbb, hcs⟩ := (HL.out.2.1.below hb (Nat.le_refl _)) (by omega)
      have c0 := hcs i hiL 0 (by omega)
      have c1 := hcs i hiL 1 (by omega)
      have c2 := hcs i hiL 2 (by omega)
      have c3' := hcs i hiL 3 (by omega)
      have c4 := hcs i hiL 4 (by omega)
      simp only [eCSN, List.getElem?_cons_succ, List.getElem?_cons_zero, Nat.add_zero] at c0 c1 c2 c3' c4
      clear hcs
      have hi1 : (i : Int) < n := by omega
      obtain ⟨hq, hni⟩ := HL.out.2.2 l[i] (List.getElem_mem hiL)
      have hst := putsT_step ys l i hiL
      obtain ⟨⟨q, kd, md, tm, dt⟩, hx⟩ : ∃ x, l[i] = x := ⟨_, rfl⟩
      simp only [hx] at c0 c1 c2 c3' c4 hq hni hst
      clear hx
      have hba := (Below.refl wr.heap.size wr).alloc (Nat.le_refl _) (.cells #[.string q, .int .i64 kd, .int .i64 md, .int .u32 tm, .string dt] 32)
      have HP := Lib.hid (ref16Put_any _ w.heap.size (.slice A5 ys.length c5) ys q ⟨kd, md, tm, dt⟩ (ho.below hba) (Nat.le_trans hb.size hba.size) hyu hyp (by omega) hyo (by omega) hni.t0 hni.t1 hni.size)
      have hpl := putT_len ys q ⟨kd, md, tm, dt⟩
      have hpu : Up ordS (putT ys q ⟨kd, md, tm, dt⟩) := by unfold putT; split; exact put_up ordS_ord _ _ _ hyu; exact hyu
      have hpo : ∀ e ∈ putT ys q ⟨kd, md, tm, dt⟩, e.1.size ≤ 90000 := fun e he => by
        unfold putT at he
        split at he
        · rcases put_mem q _ ys e he with rfl | he
          · exact hq
          · exact hyo e he
        · exact hyo e he
      have HQ := Lib.hid (And.intro (hps.trans hst) (And.intro (hb.trans (hba.mono hb.size)) (And.intro hpu (And.intro (hyp.ofPut q ⟨kd, md, tm, dt⟩) hpo)))); clear hba ho hps hst hb hpu hpo hyu hyp hyo
      generalize mayT ys q ⟨kd, md, tm, dt⟩ = why at *
      generalize putT ys q ⟨kd, md, tm, dt⟩ = zs at *
      simp only [Nd.c] at HP
      obtain ⟨ny, hny⟩ : ∃ ny, ys.length = ny := ⟨_, rfl⟩
      rw [hny] at HP hyl hpl
      rw [hny]
      clear hny
      go_wp2_with fail
      refine HP.out.mono ?_
      rintro e1 w3 ⟨r, rfl, ho3, hb3⟩
      obtain ⟨A6, c6, rfl, _, _, _⟩ := SlV_of_any ho3
      have H3 := Lib.hid (And.intro ho3 (HQ.out.2.1.trans (hb3.mono HQ.out.2.1.size))); clear ho3 hb3 HP
      by_cases hw : why = 0
      · have hwe : (why != 0) = false := by rw [hw]; rfl
        have HF := Lib.hid (show putsT [] l = putsT zs (l.drop (i + 1)) from by rw [HQ.out.1, if_pos hw]); clear hw
        go_wp2_with fail
        go_roundw
        case rel => exact ⟨i + 1, zs, by omega, by go_num, H3.out.1, HF.out, by omega, HQ.out.2.2.1, HQ.out.2.2.2.1, HQ.out.2.2.2.2, H3.out.2⟩
        case measure => simp [intOf]; omega
      · have hwe : (why != 0) = true := by rw [bne_iff_ne]; exact hw
        have HF := Lib.hid (show putsT [] l = (why, ys) from by rw [HQ.out.1, if_neg hw])
        have HW := Lib.hid hw; clear hw
        go_wp2_with fail
        refine bodyPost_ret (results_tmp3 rfl _ _ _) rfl ?_
        rw [HF.out]
        exact ⟨_, _, _, _, rfl, fun h => absurd h HW.out, H3.out.2⟩
    · obtain rfl : n = i := by omega
      rw [List.drop_of_length_le (by rw [HL.out.1]; omega)] at hps
      have hps' : putsT [] l = (0, ys) := hps
      have HF := Lib.hid (And.intro hps' (And.intro ho hb)); clear hps hps' ho hb hyu hyp hyo
      go_wp2_with fail
      refine bodyPost_ret (results_tmp3 rfl _ _ _) rfl ?_
      rw [HF.out.1]
      exact ⟨_, _, _, _, rfl, fun _ => HF.out.2.1, HF.out.2.2⟩
set_option maxRecDepth 100000 in
set_option maxHeartbeats 4000000 in
theorem ref16Right_any (w : World) (v : Value) (l : List NE) (h : SlV w 5 eCSN v l) (hl : l.length ≤ 500) (hin : ∀ x ∈ l, x.1.size ≤ 90000 ∧ NdIn x.2) :
    Calls Tryz.prog 23 #[v] w fun e w' => ∃ R : Bool, e = .returned (.bool R) ∧ (R = true ↔ putsT [] l = (0, l)) ∧ Below w.heap.size w w' := by
  have HO := Lib.hid (ref16Of_any w v l h hl hin)
  have HH := Lib.hid h
  obtain ⟨A, c, rfl, hc1, hc2, hsl⟩ := h
  obtain ⟨n, hn⟩ : ∃ n, l.length = n := ⟨_, rfl⟩
  rw [hn] at HO HH
  rw [hn]
  clear hsl hc1 hc2 hn hl
  obtain ⟨⟨why, ys⟩, hP⟩ : ∃ p, putsT [] l = p := ⟨_, rfl⟩
  rw [hP] at HO
  have HP := Lib.hid hP; clear hP
  simp only at HO
  by_cases hw : why = 0
  · have hwe : (why == 0) = true := by rw [hw]; rfl
    have HW := Lib.hid hw; clear hw
    go_enter Tryz.func23, Tryz.ntmps23
    go_wp2_with fail
    refine HO.out.mono ?_
    rintro e w1 ⟨A1, j1, c1, k1, rfl, ho1, hb1⟩
    have ho2 := ho1 HW.out
    have HWH := Lib.hid (ref16Whole_any w1 _ _ ys l ho2.slv (HH.out.below hb1 (Nat.le_refl _)))
    have HB := Lib.hid hb1; clear ho1 ho2 hb1 HO
    go_wp2_with fail
    refine HWH.out.mono ?_
    rintro e w2 ⟨R, rfl, hR, hb2⟩
    have HF := Lib.hid (And.intro hR (HB.out.trans (hb2.mono HB.out.size))); clear hR hb2 HWH
    go_wp2_with fail
    go_ret
    rw [HP.out]
    refine ⟨R, rfl, ?_, HF.out.2⟩
    rw [HF.out.1, HW.out]
    exact ⟨fun e => by rw [e], fun e => congrArg Prod.snd e⟩
  · have hwe : (why == 0) = false := by rw [beq_eq_false_iff_ne]; exact hw
    have HW := Lib.hid hw; clear hw
    go_enter Tryz.func23, Tryz.ntmps23
    go_wp2_with fail
    refine HO.out.mono ?_
    rintro e w1 ⟨A1, j1, c1, k1, rfl, ho1, hb1⟩
    have HB := Lib.hid hb1; clear ho1 hb1 HO
    go_wp2_with fail
    go_ret
    rw [HP.out]
    exact ⟨false, rfl, ⟨fun h => (by cases h), fun e => absurd (congrArg Prod.fst e) HW.out⟩, HB.out⟩
end Go.Proofs.YthnnnlbdbkdcaaaGreatDoor
/- The example of layer 18's laws. -/
set_option linter.unusedVariables false
set_option linter.unusedSimpArgs false
namespace Sw
theorem lives18_put : putW (-1) [] aS dirL = 0 ∧ putT [] aS dirL = [(aS, dirL)] ∧ renW [(aS, dirL)] aS abS = 1 := ⟨by kernel_rfl, lives_put.2.1, by kernel_rfl⟩
theorem lives18_ti : TI [(aS, dirL)] := by
  have := TI.nil.putT aS dirL
  rw [lives_put.2.1] at this
  exact this
end Sw
namespace Go.Proofs.YthnnnlbdbkdcaaaGreatDoor
open Go Go.RowKit
open Sw
theorem parent_small (p : ByteArray) : (parentS p).size ≤ 200 := by
  rcases parent_last p with ⟨_, h⟩ | ⟨h, he, _⟩
  · rw [h]; decide
  · rw [← he, List.getLast_eq_getElem]; exact (ups_step p _ (by have := List.length_pos_iff.2 h; omega : (upsS p).length - 1 < (upsS p).length)).2.1
set_option maxRecDepth 100000 in
set_option maxHeartbeats 2000000 in
theorem lives18_any (w : World) : Calls Tryz.prog 24 #[] w fun e w' => e = .returned (.bool true) ∧ Below w.heap.size w w' := by
  have HN := Lib.hid (dirNew_any w (-1))
  go_enter Tryz.func24, Tryz.ntmps24
  go_wp2_with fail
  refine HN.out.mono ?_
  rintro e w1 ⟨bd, bt, bm, rfl, hd, hbd, hb1⟩
  have h1 := dirPut_any w1 bd bt bm ⟨-1, -1, 0, false, []⟩ 0 aS dirL hd ⟨by decide, by decide, by decide, by decide⟩ (by decide) (by decide) (by decide) (by have := parent_small aS; omega) dirL_in (by rw [lives18_put.2.1]; decide)
  simp only [lives18_put.1, lives18_put.2.1] at h1
  have hs : stepD ⟨-1, -1, 0, false, []⟩ 0 [(aS, dirL)] = (0, ⟨-1, -1, 1, false, [(aS, dirL)]⟩) := rfl
  rw [hs] at h1
  simp only [Nd.c, dirL, aS] at h1
  have H1 := Lib.hid h1
  have HB1 := Lib.hid hb1; clear h1 hb1 hd HN hs
  go_wp2_with fail
  refine H1.out.mono ?_
  rintro e w2 ⟨rfl, ⟨bt2, bm2, hd2⟩, hg2⟩
  have HB2 := Lib.hid (below_grown HB1.out hg2 hbd HB1.out.size)
  have h2 := dirRename_any w2 bd bt2 bm2 ⟨-1, -1, 1, false, [(aS, dirL)]⟩ 1 aS abS hd2 lives18_ti ⟨by decide, by decide, by decide, by decide⟩ (by decide) (by decide) (by decide) (by decide) (fun e he => by
    obtain rfl : e = (aS, dirL) := by simpa using he
    exact ⟨by decide, dirL_in⟩)
  simp only [lives18_put.2.2] at h2
  have hs : stepD ⟨-1, -1, 1, false, [(aS, dirL)]⟩ 1 (renT [(aS, dirL)] aS abS) = (1, ⟨-1, -1, 1, false, [(aS, dirL)]⟩) := rfl
  rw [hs] at h2
  simp only [aS, abS] at h2
  have H2 := Lib.hid h2; clear h2 hd2 hg2 H1 HB1 hs
  go_wp2_with fail
  refine H2.out.mono ?_
  rintro e w3 ⟨rfl, ⟨bt3, bm3, hd3⟩, hg3⟩
  have HB3 := Lib.hid (below_grown HB2.out hg3 hbd HB2.out.size)
  have H3 := Lib.hid ((dirOps_any w3 bd bt3 bm3 _ hd3).mono (fun e w' h => (⟨h.1, h.2⟩ : e = .returned (.int .i64 1) ∧ w3 = w'))); clear hd3 hg3 H2 HB2
  go_wp2_with fail
  refine H3.out.mono ?_
  rintro e _ ⟨rfl, rfl⟩
  go_wp2_with fail
  go_ret
  exact ⟨rfl, HB3.out⟩
end Go.Proofs.YthnnnlbdbkdcaaaGreatDoor
