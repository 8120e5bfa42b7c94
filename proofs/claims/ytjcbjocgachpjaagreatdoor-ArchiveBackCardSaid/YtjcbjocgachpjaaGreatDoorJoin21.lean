/- Several texts, joined for the limit of sixty files; each one opens with its own comment. -/
import Derived.Test.YtjcbjocgachpjaaGreatDoorJoin20
import Derived.Test.YtjcbjocgachpjaaGreatDoorJoin12
import Derived.Test.YtjcbjocgachpjaaGreatDoorJoin13
import Derived.Test.YtjcbjocgachpjaaGreatDoorJoin18
import Derived.Stop.RegionWithIn
import Derived.Test.YtjcbjocgachpjaaGreatDoorJoin8
import Derived.StillTailTactics
import Derived.RegionTactic
import Derived.BigRegion
/- sorted.Map[string,swingle/api.Print]: Get, Put: things of several cells. -/
set_option linter.unusedVariables false
set_option linter.unusedSimpArgs false
namespace Go.Proofs.YtjcbjocgachpjaaGreatDoor
open Go Go.RowKit
open Sw
set_option maxRecDepth 100000 in
set_option maxHeartbeats 4000000 in
theorem srtPutSP_any (w : World) (bm : Nat) (xs : List (ByteArray × Pr)) (k : ByteArray) (v : Pr) (h : SMapSP w bm xs) (hn : xs.length + 1 ≤ 1000000) (hk : okS k) :
    Calls Tryz.prog 47 #[.pointer (some ⟨bm, 0, none⟩), Value.string k, (fun v => Value.agg v.c) v] w fun e w' => e = .returned (.bool (!inN ordS k xs)) ∧ SMapSP w' bm (putN ordS k v xs) ∧ w.grownBy w' (some bm) := by
  have hb0 := (Below.refl w.heap.size w).alloc (Nat.le_refl _) (.cells v.c 55)
  have hB0 := Blk.new w 55 v.c
  have HM := Lib.hid (h.below hb0)
  have HS := Lib.hid (srtFindSP_any _ bm xs k HM.out (by omega) hk)
  have HB0 := Lib.hid (And.intro hb0 hB0); clear hb0 hB0
  have hle := lbN_le (c := ordS) k xs
  cases hin : inN ordS k xs with
  | false =>
    have hd := put_miss k v xs hin
    have hln := put_len (c := ordS) k v xs
    rw [hin, if_neg (by simp)] at hln
    unfold FindPostSP at HS
    rw [hin] at HS
    obtain ⟨i, hi⟩ : ∃ i, lbN ordS k xs = i := ⟨_, rfl⟩
    rw [hi] at HS hle hd
    have HD := Lib.hid (And.intro hd hln); clear hd hln hin hi h
    simp only [Pr.c] at HS HB0 HM
    go_enter Tryz.func47, Tryz.ntmps47
    go_wp2_with fail
    refine HS.out.mono ?_
    rintro e w1 ⟨rfl, hb1⟩
    have hB1 := HB0.out.2.below hb1 HB0.out.2.lt
    obtain ⟨u, hb, ho⟩ := (HM.out.below hb1).row
    obtain ⟨A, c, rfl, _, _, _⟩ := SlV.of_own ho eCSP_len (by decide)
    have hv1 : w1.cell? ⟨bm, 1, none⟩ = some (.slice A xs.length c) := hb.cell 1
    have HC := Lib.hid (slCloneSP_any eCSP eCSP_len eCSP_one w1 _ xs (SlV.of_own ho eCSP_len (by decide)) (by omega))
    have HB := Lib.hid hb; clear hb ho
    have hb1S := hb1.size
    have HB1 := Lib.hid hb1; clear hb1
    go_wp2_with fail
    refine HC.out.mono ?_
    rintro e w2 ⟨v2, rfl, ho2, hb2⟩
    have hB2 := hB1.below hb2 hB1.lt
    have x0 := hB2.cell 0
    have x1 := hB2.cell 1
    have x2 := hB2.cell 2
    have x3 := hB2.cell 3
    have x4 := hB2.cell 4
    simp at x0 x1 x2 x3 x4
    have HB2 := Lib.hid (And.intro hB1 hB2); clear hB1 hB2
    obtain ⟨A2, c2, hv2, _, _, _⟩ := SlV_of_any ho2
    have hba : Below w2.heap.size w2 (w2.alloc (.cells (eCSP (k, v)).toArray 100)) := (Below.refl _ _).alloc (Nat.le_refl _) _
    have hlt2 := hb2.size
    have hown1 := own_kept ho2 hba
    have hbk := Blk.new w2 100 (eCSP (k, v)).toArray
    have HI := Lib.hid (slInsertSP_any (w2.alloc (.cells (eCSP (k, v)).toArray 100)) w1.heap.size v2 xs.length i w2.heap.size (xs.flatMap eCSP) 100 (eCSP (k, v)).toArray hown1 (flat1SP xs) hbk (own_ne ho2 _ (Nat.le_refl _)) rfl (by simpa using eCSP_one (k, v)) hle hn (by simp; omega))
    have HFin := Lib.hid (fun (v3 : Value) (w3 : World) (ho3 : w3.ownsRow w1.heap.size 100 6 v3 (xs.length + 1) ((xs.flatMap eCSP).take (i * 6) ++ (eCSP (k, v)) ++ (xs.flatMap eCSP).drop (i * 6))) (hbx : Blk w3 bm 138 #[ordFSP, .slice A xs.length c]) => (by
      have hd := HD.out.1
      have hxs : (xs.flatMap eCSP).take (i * 6) ++ (eCSP (k, v)) ++ (xs.flatMap eCSP).drop (i * 6) = (putN ordS k v xs).flatMap eCSP := by rw [hd, List.flatMap_append, List.flatMap_cons, flat_take eCSP_len, flat_drop eCSP_len, List.append_assoc]
      rw [hxs, ← HD.out.2] at ho3
      exact ⟨⟨v3, hbx.put 1 v3, own_wide (own_grown_typSP ho3 (grown_put (grown_refl w3 (some bm)) 1 v3) hbx (by decide)) (Nat.zero_le _)⟩, put_up ordS_ord k v xs HM.out.up, fun e he => by
        rcases put_mem k v xs e he with rfl | he
        · exact hk
        · exact HM.out.ok e he⟩ : SMapSP (w3.setCell ⟨bm, 1, none⟩ v3) bm (putN ordS k v xs)))
    have HG := Lib.hid (fun (v3 : Value) (w3 : World) (hg3 : (w2.alloc (.cells (eCSP (k, v)).toArray 100)).grownBy w3 v2.ownBlock) => (by
      have h1 := grown_below (row := some bm) (HB0.out.1.trans (HB1.out.mono HB0.out.1.size))
      have hb2a := hb2.trans (hba.mono hb2.size)
      have h2 := grown_trans h1 ⟨hb2a.os, hb2a.tape, hb2a.output, hb2a.size, fun k hk _ => hb2a.block k hk⟩
      have h3 := grown_sub h2 hg3 (fun k hk => by have := (ho2.lt k hk).1; have := HB0.out.1.size; omega)
      exact ⟨grown_put h3 1 v3, (HB.out.below hb2a HB.out.lt).grown hg3 (fun e => by have := (ho2.lt bm e.symm).1; have := HB.out.lt; omega)⟩ : w.grownBy (w3.setCell ⟨bm, 1, none⟩ v3) (some bm) ∧ Blk w3 bm 138 #[ordFSP, .slice A xs.length c]))
    clear HC ho2 hb2 hba hown1 hbk
    subst hv2
    unfold InsPostSP at HI
    generalize hrw : Value.ownBlock _ = rw2 at *
    clear hrw
    simp only [eCSP, List.toList_toArray] at HI HFin HG
    go_wp2_with fail
    refine HI.out.mono ?_
    rintro e w3 ⟨g3, cap3, rfl, ho3, hg3, hr3⟩
    obtain ⟨hgf, hbx⟩ := HG.out (.slice (some ⟨g3, 0, none⟩) (xs.length + 1) cap3) w3 hg3
    have hF := HFin.out _ w3 ho3 hbx
    have hc1 : w3.cell? ⟨bm, 1, none⟩ = some (.slice A xs.length c) := hbx.cell 1
    have hf1 := hbx.frozen 1
    have HZ := Lib.hid (And.intro hF hgf); clear hF hgf hbx ho3 hg3 hr3
    go_wp2_with fail
    go_ret
    exact ⟨rfl, HZ.out.1, HZ.out.2⟩
  | true =>
    have hlt := inN_lt ordS_ord hin
    have hd := put_hit k v xs hin
    have hkk : ordS (xs[lbN ordS k xs]).1 k = 0 := by
      have := inN_at ordS_ord (k := k) hlt
      rw [hin] at this
      exact of_decide_eq_true this.symm
    have hkx : ∀ (j : Nat) (hj : j < xs.length), j = lbN ordS k xs → (xs[j]).1 = k := by
      intro j hj e
      subst e
      exact ordS_ord.zero _ _ hkk
    unfold FindPostSP at HS
    rw [hin] at HS
    obtain ⟨i, hi⟩ : ∃ i, lbN ordS k xs = i := ⟨_, rfl⟩
    rw [hi] at HS hlt hd
    have hkx2 := hkx i hlt hi.symm
    have HD := Lib.hid (And.intro hd hkx2); clear hkx2 hd hin hi h hle hkk hkx
    simp only [Pr.c] at HS HB0 HM
    go_enter Tryz.func47, Tryz.ntmps47
    go_wp2_with fail
    refine HS.out.mono ?_
    rintro e w1 ⟨rfl, hb1⟩
    have hB1 := HB0.out.2.below hb1 HB0.out.2.lt
    obtain ⟨u, hb, ho⟩ := (HM.out.below hb1).row
    obtain ⟨A, c, rfl, _, _, _⟩ := SlV.of_own ho eCSP_len (by decide)
    have hv1 : w1.cell? ⟨bm, 1, none⟩ = some (.slice A xs.length c) := hb.cell 1
    have HC := Lib.hid (slCloneSP_any eCSP eCSP_len eCSP_one w1 _ xs (SlV.of_own ho eCSP_len (by decide)) (by omega))
    have HB := Lib.hid hb; clear hb ho
    have hb1S := hb1.size
    have HB1 := Lib.hid hb1; clear hb1
    go_wp2_with fail
    refine HC.out.mono ?_
    rintro e w2 ⟨v2, rfl, ho2, hb2⟩
    have hB2 := hB1.below hb2 hB1.lt
    have x0 := hB2.cell 0
    have x1 := hB2.cell 1
    have x2 := hB2.cell 2
    have x3 := hB2.cell 3
    have x4 := hB2.cell 4
    simp at x0 x1 x2 x3 x4
    have HB2 := Lib.hid (And.intro hB1 hB2); clear hB1 hB2
    obtain ⟨g, cap, cur, rfl, hbg, hg, hnc, hcm, hcs, htk⟩ := own_form ho2 (by omega)
    have hgl := hg.lt
    have hst := own_setCells [.int .i64 v.kind, .int .i64 v.mode, .int .u32 v.time, .int .i64 v.size, .int .u32 v.sum] (i * 6 + 1) w2 _ ho2 (by simp; omega)
    have hgr := grown_setCells (a := w2) (g := g) [.int .i64 v.kind, .int .i64 v.mode, .int .u32 v.time, .int .i64 v.size, .int .u32 v.sum] (i * 6 + 1) w2 (grown_refl _ _)
    have hfl := flat_put eCSP_len xs i hlt (k, v) 1 [.int .i64 v.kind, .int .i64 v.mode, .int .u32 v.time, .int .i64 v.size, .int .u32 v.sum] (by simp) (by simp [eCSP, HD.out.2])
    rw [hfl, ← HD.out.1] at hst
    have hl : (putN ordS k v xs).length = xs.length := by rw [HD.out.1, List.length_set]
    rw [← hl] at hst
    have hbx : Blk (w2.setCells g (i * 6 + 1) [.int .i64 v.kind, .int .i64 v.mode, .int .u32 v.time, .int .i64 v.size, .int .u32 v.sum]) bm 138 #[ordFSP, .slice A xs.length c] := (HB.out.below hb2 HB.out.lt).grown hgr (fun e => by have := HB.out.lt; cases e; omega)
    have hF : SMapSP ((w2.setCells g (i * 6 + 1) [.int .i64 v.kind, .int .i64 v.mode, .int .u32 v.time, .int .i64 v.size, .int .u32 v.sum]).setCell ⟨bm, 1, none⟩ (.slice (some ⟨g, 0, none⟩) (putN ordS k v xs).length cap)) bm (putN ordS k v xs) :=
      ⟨⟨_, hbx.put 1 _, own_wide (own_grown_typSP hst (grown_put (grown_refl _ (some bm)) 1 _) hbx (by decide)) (Nat.zero_le _)⟩, put_up ordS_ord k v xs HM.out.up, fun e he => by
        rcases put_mem k v xs e he with rfl | he
        · exact hk
        · exact HM.out.ok e he⟩
    have hGf : w.grownBy ((w2.setCells g (i * 6 + 1) [.int .i64 v.kind, .int .i64 v.mode, .int .u32 v.time, .int .i64 v.size, .int .u32 v.sum]).setCell ⟨bm, 1, none⟩ (.slice (some ⟨g, 0, none⟩) (putN ordS k v xs).length cap)) (some bm) := by
      have h1 := grown_below (row := some bm) (HB0.out.1.trans (HB1.out.mono HB0.out.1.size))
      have h2 := grown_trans h1 ⟨hb2.os, hb2.tape, hb2.output, hb2.size, fun k hk _ => hb2.block k hk⟩
      exact grown_put (grown_sub h2 hgr (fun k hk => by cases hk; have := HB0.out.1.size; omega)) 1 _
    rw [hl] at hF hGf
    have hx0 : ∀ j, j < cap * 6 → (w2.cell? ⟨g, j, none⟩).isSome = true := fun j hj => by
      rw [hg.cell, Array.getElem?_eq_getElem (by omega)]; rfl
    obtain ⟨old0, hold0⟩ := Option.isSome_iff_exists.1 (hx0 (i * 6 + 1) (by omega))
    have hfz0 := hg.frozen (i * 6 + 1)
    obtain ⟨old1, hold1⟩ := Option.isSome_iff_exists.1 (hx0 (i * 6 + 1 + 1) (by omega))
    have hfz1 := hg.frozen (i * 6 + 1 + 1)
    obtain ⟨old2, hold2⟩ := Option.isSome_iff_exists.1 (hx0 (i * 6 + 1 + 1 + 1) (by omega))
    have hfz2 := hg.frozen (i * 6 + 1 + 1 + 1)
    obtain ⟨old3, hold3⟩ := Option.isSome_iff_exists.1 (hx0 (i * 6 + 1 + 1 + 1 + 1) (by omega))
    have hfz3 := hg.frozen (i * 6 + 1 + 1 + 1 + 1)
    obtain ⟨old4, hold4⟩ := Option.isSome_iff_exists.1 (hx0 (i * 6 + 1 + 1 + 1 + 1 + 1) (by omega))
    have hfz4 := hg.frozen (i * 6 + 1 + 1 + 1 + 1 + 1)
    have hbc0 := HB.out.below hb2 HB.out.lt
    have hne1 : bm ≠ g := fun e => by have := HB.out.lt; omega
    have hbc4 := ((((hbc0.far (p := ⟨g, i * 6 + 1, none⟩) hne1 (.int .i64 v.kind)).far (p := ⟨g, i * 6 + 1 + 1, none⟩) hne1 (.int .i64 v.mode)).far (p := ⟨g, i * 6 + 1 + 1 + 1, none⟩) hne1 (.int .u32 v.time)).far (p := ⟨g, i * 6 + 1 + 1 + 1 + 1, none⟩) hne1 (.int .i64 v.size)).far (p := ⟨g, i * 6 + 1 + 1 + 1 + 1 + 1, none⟩) hne1 (.int .u32 v.sum)
    have hc3 := hbc4.cell 1
    have hf3 := hbc4.frozen 1
    simp at hc3
    have HZ := Lib.hid (And.intro hF hGf); clear hF hGf hbx hst hgr hfl hl hx0 hg htk ho2 hb2 hnc hcs hcm hbc0 hbc4
    have hi2 : (i : Int) < xs.length := by omega
    go_wp2_with fail
    go_ret
    exact ⟨rfl, HZ.out.1, HZ.out.2⟩
end Go.Proofs.YtjcbjocgachpjaaGreatDoor
/- sorted's iterators over string, swingle/api.Print: told, All, From, Back. -/
set_option linter.unusedVariables false
set_option linter.unusedSimpArgs false
namespace Go.Proofs.YtjcbjocgachpjaaGreatDoor
open Go Go.RowKit Go.Shelf
open Sw
attribute [local go_sem] Oper.semAt_some
end Go.Proofs.YtjcbjocgachpjaaGreatDoor
/- archive.marks. -/
set_option linter.unusedVariables false
set_option linter.unusedSimpArgs false
namespace Go.Proofs.YtjcbjocgachpjaaGreatDoor
open Go Go.RowKit Go.Shelf
open Sw
attribute [local go_sem] Oper.semAt_some
theorem SMapSP.ownF {W W' : World} {row : Option Nat} {bm : Nat} {X : List MkE} (h : SMapSP W bm X) (hg : W.grownBy W' row) (hr : ∀ r, row = some r → ∃ o : Obj, W.heap[r]? = some o ∧ o.isCells = false) : SMapSP W' bm X := by
  obtain ⟨v, hb, ho⟩ := h.row
  exact ⟨⟨v, blk_ownF hb hg hr, own_ownF ho hg hr⟩, h.up, h.ok⟩
theorem smapSP_blk {w : World} {bm : Nat} {X : List MkE} (h : SMapSP w bm X) : ∃ cs, Blk w bm 138 cs := by
  obtain ⟨v, hb, _⟩ := h.row
  exact ⟨_, hb⟩
/-- the map of prints, and its box -/
def MkI (T bm : Nat) (X : List MkE) (W : World) : Prop := Blk W T 56 #[.pointer (some ⟨bm, 0, none⟩)] ∧ SMapSP W bm X
theorem MkI.below {T bm : Nat} {X : List MkE} {A B : World} (h : MkI T bm X A) (hb : Below A.heap.size A B) : MkI T bm X B := ⟨h.1.below hb h.1.lt, h.2.below hb⟩
theorem MkI.ownF {T bm : Nat} {X : List MkE} {A B : World} {row : Option Nat} (h : MkI T bm X A) (hg : A.grownBy B row) (hr : ∀ r, row = some r → ∃ o : Obj, A.heap[r]? = some o ∧ o.isCells = false) : MkI T bm X B := ⟨blk_ownF h.1 hg hr, h.2.ownF hg hr⟩
theorem MkI.put {T bm : Nat} {X Y : List MkE} {A B : World} (h : MkI T bm X A) (hm : SMapSP B bm Y) (hg : A.grownBy B (some bm)) : MkI T bm Y B := by
  obtain ⟨cs, hB⟩ := smapSP_blk h.2
  exact ⟨h.1.grown hg (fun e => by have e' : T = bm := by simpa using e
                                   subst e'; exact Blk.other h.1 hB (by decide) rfl), hm⟩
/-- marks put one by one -/
def foldMk (pre : List NE) : List MkE := pre.foldl (fun X e => putN ordS e.1 (printN e.2) X) []
theorem foldMk_one (pre : List NE) (x : NE) : foldMk (pre ++ [x]) = putN ordS x.1 (printN x.2) (foldMk pre) := by unfold foldMk; rw [List.foldl_append]; rfl
theorem put_endM {X : List MkE} {p : ByteArray} (h : ∀ e ∈ X, ordS e.1 p < 0) (v : Pr) (hu : Up ordS X) : putN ordS p v X = X ++ [(p, v)] := by
  rw [put_filter ordS_ord p v X hu, List.filter_eq_self.2 (fun e he => by simpa using h e he), List.filter_eq_nil_iff.2 (fun e he => by have := h e he; simp; omega)]
theorem foldMk_eq {xs : List NE} (hu : Up ordS xs) : ∀ (pre : List NE), pre <+: xs → foldMk pre = marksT pre := by
  intro pre hp
  obtain ⟨r, rfl⟩ := hp
  have key : ∀ (n : Nat), n ≤ pre.length → foldMk (pre.take n) = marksT (pre.take n) := by
    intro n
    induction n with
    | zero => intro _; rfl
    | succ n ih =>
      intro hn
      rw [List.take_succ_eq_append_getElem (by omega), foldMk_one, ih (by omega)]
      have hup : Up ordS (pre.take (n + 1)) := (hu.sublist (List.sublist_append_left pre r)).sublist (List.take_sublist _ _)
      rw [List.take_succ_eq_append_getElem (by omega)] at hup
      have hpw := List.pairwise_append.1 hup
      rw [put_endM (fun e he => by
        obtain ⟨d, hd, rfl⟩ := List.mem_map.1 he
        exact hpw.2.2 d hd _ (List.mem_cons_self ..)) _ (marksT_up hpw.1)]
      unfold marksT
      rw [List.map_append]
      rfl
  have := key pre.length (Nat.le_refl _)
  rwa [List.take_length] at this
/-- words of a tree put into the map -/
def MtI (T bm : Nat) (gb : Nat) (v : Value) (xs : List NE) (pre : List NE) (W : World) : Prop :=
  (MkI T bm (foldMk pre) W ∧ gb < W.heap.size) ∧ Blk W gb 125 #[v] ∧ Lies W 135 5 eCSN v xs
theorem MtI.own (T bm : Nat) (gb : Nat) (v : Value) (xs : List NE) : Own (MtI T bm gb v xs) := fun _ A C row hs hg hr => ⟨⟨hs.1.1.ownF hg hr, Nat.lt_of_lt_of_le hs.1.2 hg.size⟩, blk_ownF hs.2.1 hg hr, hs.2.2.ownF hg hr⟩
theorem MtI.below {T bm gb : Nat} {v : Value} {xs pre : List NE} {A B : World} (hs : MtI T bm gb v xs pre A) (hb : Below A.heap.size A B) : MtI T bm gb v xs pre B := ⟨⟨hs.1.1.below hb, Nat.lt_of_lt_of_le hs.1.2 hb.size⟩, hs.2.1.below hb hs.2.1.lt, hs.2.2.below hb⟩
set_option maxRecDepth 100000 in
set_option maxHeartbeats 8000000 in
theorem marks_any (w : World) (bt bmt : Nat) (xs : List NE) (hT : TreeAt w bt bmt xs) (hxl : xs.length ≤ 1000) (hxp : ∀ e ∈ xs, e.1.size ≤ 90000) (hxd : ∀ e ∈ xs, e.2.data.size ≤ maxLen) :
    Calls Tryz.prog 20 #[.pointer (some ⟨bt, 0, none⟩)] w fun e w' => ∃ bm, e = .returned (.pointer (some ⟨bm, 0, none⟩)) ∧ SMapSP w' bm (marksT xs) ∧ w.heap.size ≤ bm ∧ Below w.heap.size w w' := by
  refine callsIn_wide.1 (?_ : CallsIn Fence.wide 9 _ _ _ _ _)
  refine callsIn_of_wp_marks Tryz.func20 rfl trivial ?_ rfl
  simp only [Tryz.ntmps20, List.size_toArray, List.length_cons, List.length_nil, Nat.reduceAdd, Nat.reduceSub, Array.replicate_succ, Array.replicate_zero, List.push_toArray, List.append_toArray, List.nil_append, List.cons_append]
  have HN := Lib.hid (srtNewSP_any w)
  have H0 := Lib.hid hT
  have HX := Lib.hid (And.intro hxp (And.intro hxd hT.map.up))
  clear hT hxp hxd
  gi_wp2
  refine ⟨trivial, (callsIn_wide.2 HN.out).mono ?_⟩
  rintro e w1 ⟨bm, rfl, hm, hbm, hb1⟩
  have hba : Below w1.heap.size w1 (w1.alloc (.cells #[.pointer (some ⟨bm, 0, none⟩)] 56)) := (Below.refl _ w1).alloc (Nat.le_refl _) _
  have hb2 := hb1.trans (hba.mono hb1.size)
  have H1 := Lib.hid (And.intro (show MkI w1.heap.size bm [] _ from ⟨Blk.new w1 _ _, hm.below hba⟩) (And.intro hb2 (H0.out.below hb2)))
  have HM := Lib.hid hbm
  obtain ⟨W1, hW1⟩ : ∃ W1, w1.alloc (.cells #[.pointer (some ⟨bm, 0, none⟩)] 56) = W1 := ⟨_, rfl⟩
  obtain ⟨T, hTe⟩ : ∃ T, w1.heap.size = T := ⟨_, rfl⟩
  rw [hW1, hTe] at H1
  have HW1 := Lib.hid (And.intro hW1 hTe)
  clear hba hb2 hb1 hbm hm hW1 hTe HN H0
  gi_wp2
  rw [HW1.out.1, HW1.out.2]
  clear HW1
  refine ⟨trivial, (callsIn_wide.2 (treeAll_any W1 bt bmt xs H1.out.2.2)).mono ?_⟩
  rintro e w6 ⟨gb, v, rfl, hgb, hL, hge, hvb, hb6⟩
  have hP6 := H1.out.1.below hb6
  have hB6 := H1.out.2.1.trans (hb6.mono H1.out.2.1.size)
  have hgl := hgb.lt
  obtain ⟨cs0, hcs0⟩ := smapSP_blk hP6.2
  have hbmgb : bm ≠ gb := fun e => by subst e; exact Blk.other hcs0 hgb (by decide) rfl
  have hbmv : 0 < xs.length → ∀ g, v.ownBlock = some g → bm ≠ g := fun h0 g hg e => by
    subst e
    obtain ⟨A, c, rfl, _, _, h3⟩ := hL
    obtain ⟨g', off, cur, rfl, hb, _⟩ := h3 h0
    cases hg
    exact Blk.other hcs0 hb (by decide) rfl
  have HNE := Lib.hid (And.intro hbmgb hbmv)
  have hz6 := hB6.size
  clear hbmgb hbmv hcs0 hb6 hge H1
  gi_wp2
  refine wpIn_rangeFunc_tellW (Mine := fun _ => False) (fun _ h => h.elim) rfl (by omega) (gf := 148) (lb := #[.pointer (some ⟨gb, 0, none⟩)]) rfl trivial (enters_of Tryz.func148 (by kernel_rfl) rfl)
    (toldSN_tells 8 (by omega) gb v xs w6 hgb hL (by omega)) KeepIt.trans (keepIt_b hgl hvb) (Below.refl _ _) (fun _ => rfl)
    (fun pre W => MtI T bm gb v xs pre W ∧ Below w.heap.size w W)
    (fun c pre W => False)
    (OwnM.of_none (OwnFrom.and (Own.from (MtI.own T bm gb v xs) _) (ownFrom_below (Nat.le_refl _) (by omega))))
    (fun c => OwnM.of_none (fun _ _ _ _ hs _ _ => hs.elim))
    ⟨⟨⟨hP6, hgl⟩, hgb, hL⟩, hB6⟩
    ?a1 (fun x W => W.alloc (.cells x.2.c 43))
    (fun x n₀ pre W => MtI T bm gb v xs pre W ∧ Below w.heap.size w W ∧ Blk W n₀ 43 x.2.c) (fun x n₀ => OwnM.of_none (OwnFrom.and (Own.from (MtI.own T bm gb v xs) _) (OwnFrom.and (ownFrom_below (Nat.le_refl _) (by omega)) (Own.from (fun _ A B row hs hg hr => blk_ownF hs hg hr) _)))) ?made ?assign ?body ?done ?stop
  case a1 => exact fun x n₀ => { tmps := #[.pointer (some ⟨bt, 0, none⟩), undef, .pointer none, .pointer (some ⟨T, 0, none⟩), .string x.1, .pointer (some ⟨n₀, 0, none⟩), .pointer (some ⟨bm, 0, none⟩), .pointer (some ⟨bt, 0, none⟩), .func (.func 148) #[] #[.pointer (some ⟨gb, 0, none⟩)], .string x.1, .agg x.2.c, undef, undef, undef, undef, undef, undef], defers := [] }
  case assign =>
    rintro l ⟨q, kd, md, tm, dt⟩ n₀ W rfl K hK
    simp only [Nd.c] at hK ⊢
    gi_wp2
    exact hK
  case made =>
    rintro pre x W ⟨hI, hB⟩ hT
    have hba := (Below.refl W.heap.size W).alloc (Nat.le_refl _) (.cells x.2.c 43)
    refine ⟨⟨hI.below hba, hB.alloc hB.size _, Blk.new _ _ _⟩, keeps_belowF hba, .below hba hI.2.1.lt (fun g hg => ?_)⟩
    obtain ⟨r, hr⟩ := hT
    obtain ⟨A, c, rfl, _, _, hx⟩ := hI.2.2
    obtain ⟨g2, off, cur, rfl, hB, _⟩ := hx (by rw [← hr]; simp; omega)
    cases hg
    exact hB.lt
  case body =>
    rintro l pre x n₀ W ⟨hI, hB, hXn⟩ hTl
    have hx0 : 0 < xs.length := by obtain ⟨r, hr⟩ := hTl; rw [← hr]; simp; omega
    have hpl : pre.length + 1 ≤ 1000 := by obtain ⟨r, hr⟩ := hTl; have := congrArg List.length hr; simp at this; omega
    have hxm : x ∈ xs := by obtain ⟨r, hr⟩ := hTl; rw [← hr]; simp
    have hq := HX.out.1 x hxm
    have hd := HX.out.2.1 x hxm
    have hfl : (foldMk pre).length ≤ 1000 := by
      rw [foldMk_eq HX.out.2.2 pre (by obtain ⟨r, hr⟩ := hTl; exact ⟨x :: r, by rw [← hr]; simp⟩)]
      unfold marksT
      rw [List.length_map]; omega
    have HF1 := Lib.hid (foldMk_one pre x)
    obtain ⟨q, ⟨kd, md, tm, dt⟩⟩ := x
    simp only at hq hd hXn HF1
    have x0 := hXn.cell 0
    have x1 := hXn.cell 1
    have x2 := hXn.cell 2
    have x3 := hXn.cell 3
    simp [Nd.c] at x0 x1 x2 x3
    have c0 := hI.1.1.1.cell 0
    simp at c0
    obtain ⟨pr, hpr⟩ : ∃ pr, printN ⟨kd, md, tm, dt⟩ = pr := ⟨_, rfl⟩
    rw [hpr] at HF1
    have HPR := Lib.hid (fun W' => hpr ▸ print_any W' ⟨kd, md, tm, dt⟩ hd)
    simp only [Nd.c] at HPR
    have HPU := Lib.hid (fun W' (h : SMapSP W' bm (foldMk pre)) => srtPutSP_any W' bm (foldMk pre) q pr h (by omega) hq)
    have HI := Lib.hid (And.intro hI hB)
    have hdr : Below W.heap.size W W.drew := (Below.refl _ W).drew
    clear hI hB hXn hTl hpr hd
    gi_wp2
    gi_region_with (first
      | (refine ⟨trivial, (callsIn_wide.2 (HPR.out _)).mono ?_⟩; rintro e w7 ⟨rfl, hb7⟩; have hI7 := HI.out.1.below (hdr.trans hb7); have hb7' := HI.out.2.trans ((hdr.trans hb7).mono HI.out.2.size); have c7 := hI7.1.1.1.cell 0; simp at c7)
      | (refine ⟨trivial, (callsIn_wide.2 (HPU.out w7 hI7.1.1.2)).mono ?_⟩; rintro e w8 ⟨rfl, hm8, hg8⟩))
    all_goals
      have hbb := hdr.trans hb7
      obtain ⟨cs, hBm⟩ := smapSP_blk hI7.1.1.2
      have hlv : ∀ g, v.ownBlock = some g → g < W.heap.size := fun g hg => by
        obtain ⟨A, c, rfl, _, _, h3⟩ := HI.out.1.2.2
        obtain ⟨g', off, cur, rfl, hbq, _⟩ := h3 hx0
        cases hg
        exact hbq.lt
      have hko := (keeps_belowF hbb).trans (keeps_grownF hg8 hBm)
      have hgK : KeepIt gb v W w8 := (KeepIt.below hbb HI.out.1.2.1.lt hlv).trans ⟨hg8.size, hg8.block gb hI7.1.2 (fun e => HNE.out.1 (by simpa using e.symm)), fun g hg => hg8.block g (Nat.lt_of_lt_of_le (hlv g hg) hbb.size) (fun e => HNE.out.2 hx0 g hg (by simpa using e.symm))⟩
      have HF := Lib.hid (And.intro hko (And.intro hgK (And.intro (hI7.1.1.put hm8 hg8) (hb7'.grown hg8 hb7'.size (fun k hk => by cases hk; exact HM.out)))))
      clear hm8 hg8 hko hgK hBm hbb hb7 hb7' c7 hI7 x0 x1 x2 x3 c0
      gi_wp2
      refine ⟨HF.out.1, HF.out.2.1, ⟨⟨?_, Nat.lt_of_lt_of_le HI.out.1.1.2 HF.out.1.size⟩, ?_, ?_⟩, HF.out.2.2.2⟩
      · rw [HF1.out]; exact HF.out.2.2.1
      · have := HF.out.2.1.box
        have h2 := HI.out.1.2.1
        unfold Blk at h2 ⊢
        rw [this, h2]
      · exact HI.out.1.2.2.kept (fun g cur h _ => HF.out.2.1.row g h)
  case done =>
    rintro D zs W hD hzs ⟨⟨⟨hP, hglW⟩, hgW, hLW⟩, hB⟩ hK
    have hz : zs = xs := hzs
    subst hz
    rw [foldMk_eq HX.out.2.2 zs (List.prefix_refl _)] at hP
    have q5 := hP.1.cell 0
    simp at q5
    have hD' : w.heap.size ≤ D := by omega
    have HR3 := Lib.hid (And.intro hP (And.intro hB hK))
    clear hP hB hgW hLW
    gi_wp2
    refine ⟨by simp, .inl ⟨_, _, rfl, run_takeDeferred hK, ?_⟩⟩
    refine ⟨_, results_tmp rfl _ _ _, ⟨bm, rfl, ?_, HM.out, ?_⟩⟩
    · exact HR3.out.1.2.ownF (grownBy_putObj' W D (.deferred none)) (fun r e => show ∃ o : Obj, W.heap[r]? = some o ∧ o.isCells = false from (by cases (e : some D = some r); exact ⟨_, hK, rfl⟩))
    · exact HR3.out.2.1.trans (belowK_b (w := w) (Nat.le_refl _) W D _ (.deferred none) hD' hK rfl rfl)
  case stop =>
    rintro D c pre W hD hSp h
    exact h.elim
end Go.Proofs.YtjcbjocgachpjaaGreatDoor
/- archive.Marks. -/
set_option linter.unusedVariables false
set_option linter.unusedSimpArgs false
namespace Go.Proofs.YtjcbjocgachpjaaGreatDoor
open Go Go.RowKit Go.Shelf
open Sw
attribute [local go_sem] Oper.semAt_some
/-- a row of marks that the call owns -/
def OwnMk (w : World) (base : Nat) (u : Value) (l : List MkE) : Prop := w.ownsRow base 61 6 u l.length (l.flatMap eCM)
theorem OwnMk.below {w w' : World} {base : Nat} {u : Value} {l : List MkE} (h : OwnMk w base u l) (hb : Below w.heap.size w w') : OwnMk w' base u l := own_kept h hb
theorem OwnMk.slv {w : World} {base : Nat} {u : Value} {l : List MkE} (h : OwnMk w base u l) : SlV w 6 eCM u l := SlV.of_own h eCM_len (by decide)
def MaI (T gb : Nat) (v : Value) (xs : List MkE) (pre : List MkE) (W : World) : Prop := gb < W.heap.size ∧ (∃ o, Blk W T 29 #[o] ∧ OwnMk W T o pre) ∧ Blk W gb 94 #[v] ∧ Lies W 100 6 eCSP v xs
theorem MaI.own (T gb : Nat) (v : Value) (xs : List MkE) : Own (MaI T gb v xs) := fun _ A B row hs hg hr => ⟨Nat.lt_of_lt_of_le hs.1 hg.size, by obtain ⟨o, h1, h2⟩ := hs.2.1; exact ⟨o, blk_ownF h1 hg hr, own_ownF h2 hg hr⟩, blk_ownF hs.2.2.1 hg hr, hs.2.2.2.ownF hg hr⟩
theorem MaI.below {T gb : Nat} {v : Value} {xs pre : List MkE} {A B : World} (hs : MaI T gb v xs pre A) (hb : Below A.heap.size A B) : MaI T gb v xs pre B := ⟨Nat.lt_of_lt_of_le hs.1 hb.size, by obtain ⟨o, h1, h2⟩ := hs.2.1; exact ⟨o, h1.below hb h1.lt, h2.below hb⟩, hs.2.2.1.below hb hs.2.2.1.lt, hs.2.2.2.below hb⟩
end Go.Proofs.YtjcbjocgachpjaaGreatDoor
/- Two maps side by side: plain laws; what a round keeps. -/
set_option linter.unusedVariables false
set_option linter.unusedSimpArgs false
namespace Sw
section
variable {κ ν : Type} {c : κ → κ → Int}
/-- by which of two rows the next key is -/
def sideL (c : κ → κ → Int) : List (κ × ν) → List (κ × ν) → Int
  | _, [] => -1
  | [], _ :: _ => 1
  | a :: _, b :: _ => c a.1 b.1
def joinF (c : κ → κ → Int) : Nat → List (κ × ν) → List (κ × ν) → List (κ × Option ν × Option ν)
  | 0, _, _ => []
  | _ + 1, [], [] => []
  | n + 1, a :: x, [] => (a.1, some a.2, none) :: joinF c n x []
  | n + 1, [], b :: y => (b.1, none, some b.2) :: joinF c n [] y
  | n + 1, a :: x, b :: y => if c a.1 b.1 < 0 then (a.1, some a.2, none) :: joinF c n x (b :: y) else if 0 < c a.1 b.1 then (b.1, none, some b.2) :: joinF c n (a :: x) y else (b.1, some a.2, some b.2) :: joinF c n x y
/-- two rows that rise, as one: each key with its thing on the one side, and on the other one -/
def joinL (c : κ → κ → Int) (x y : List (κ × ν)) : List (κ × Option ν × Option ν) := joinF c (x.length + y.length) x y
theorem joinF_more : ∀ (n m : Nat) (x y : List (κ × ν)), x.length + y.length ≤ n → x.length + y.length ≤ m → joinF c n x y = joinF c m x y
  | 0, m, [], [], _, _ => by cases m <;> rfl
  | n + 1, 0, [], [], _, _ => rfl
  | n + 1, m + 1, [], [], _, _ => rfl
  | n + 1, m + 1, a :: x, [], h1, h2 => by
    unfold joinF
    simp only [List.length_cons, List.length_nil] at h1 h2
    rw [joinF_more n m x [] (by simp only [List.length_nil]; omega) (by simp only [List.length_nil]; omega)]
  | n + 1, m + 1, [], b :: y, h1, h2 => by
    unfold joinF
    simp only [List.length_cons, List.length_nil] at h1 h2
    rw [joinF_more n m [] y (by simp only [List.length_nil]; omega) (by simp only [List.length_nil]; omega)]
  | n + 1, m + 1, a :: x, b :: y, h1, h2 => by
    unfold joinF
    simp only [List.length_cons] at h1 h2
    rw [joinF_more n m x (b :: y) (by simp only [List.length_cons]; omega) (by simp only [List.length_cons]; omega), joinF_more n m (a :: x) y (by simp only [List.length_cons]; omega) (by simp only [List.length_cons]; omega), joinF_more n m x y (by omega) (by omega)]
  | 0, _, a :: x, y, h1, _ => by simp only [List.length_cons] at h1; omega
  | 0, _, [], b :: y, h1, _ => by simp only [List.length_cons] at h1; omega
  | _ + 1, 0, a :: x, y, _, h2 => by simp only [List.length_cons] at h2; omega
  | _ + 1, 0, [], b :: y, _, h2 => by simp only [List.length_cons] at h2; omega
theorem joinL_a (a : κ × ν) (x : List (κ × ν)) : joinL c (a :: x) [] = (a.1, some a.2, none) :: joinL c x [] := by
  unfold joinL
  rw [show (a :: x).length + ([] : List (κ × ν)).length = (x.length + ([] : List (κ × ν)).length) + 1 from by simp only [List.length_cons]; omega]
  rfl
theorem joinL_b (b : κ × ν) (y : List (κ × ν)) : joinL c [] (b :: y) = (b.1, none, some b.2) :: joinL c [] y := by
  unfold joinL
  rw [show ([] : List (κ × ν)).length + (b :: y).length = (([] : List (κ × ν)).length + y.length) + 1 from by simp only [List.length_cons]; omega]
  rfl
theorem joinL_ab (a b : κ × ν) (x y : List (κ × ν)) : joinL c (a :: x) (b :: y) = if c a.1 b.1 < 0 then (a.1, some a.2, none) :: joinL c x (b :: y) else if 0 < c a.1 b.1 then (b.1, none, some b.2) :: joinL c (a :: x) y else (b.1, some a.2, some b.2) :: joinL c x y := by
  unfold joinL
  rw [show (a :: x).length + (b :: y).length = (x.length + y.length + 1) + 1 from by simp only [List.length_cons]; omega]
  conv => lhs; unfold joinF
  rw [joinF_more (x.length + y.length + 1) (x.length + (b :: y).length) x (b :: y) (by simp only [List.length_cons]; omega) (Nat.le_refl _), joinF_more (x.length + y.length + 1) ((a :: x).length + y.length) (a :: x) y (by simp only [List.length_cons]; omega) (Nat.le_refl _), joinF_more (x.length + y.length + 1) (x.length + y.length) x y (by omega) (Nat.le_refl _)]
/-- the next of both -/
theorem join_cases (x y : List (κ × ν)) (h : 0 < x.length + y.length) :
    (sideL c x y < 0 ∧ ∃ a x', x = a :: x' ∧ joinL c x y = (a.1, some a.2, none) :: joinL c x' y) ∨
    (0 < sideL c x y ∧ ∃ b y', y = b :: y' ∧ joinL c x y = (b.1, none, some b.2) :: joinL c x y') ∨
    (sideL c x y = 0 ∧ ∃ a x' b y', x = a :: x' ∧ y = b :: y' ∧ joinL c x y = (b.1, some a.2, some b.2) :: joinL c x' y') := by
  cases x with
  | nil =>
    cases y with
    | nil => simp at h
    | cons b y => exact .inr (.inl ⟨(by decide : (0 : Int) < 1), b, y, rfl, joinL_b b y⟩)
  | cons a x =>
    cases y with
    | nil => exact .inl ⟨(by decide : (-1 : Int) < 0), a, x, rfl, joinL_a a x⟩
    | cons b y =>
      rcases Int.lt_trichotomy (c a.1 b.1) 0 with h1 | h1 | h1
      · exact .inl ⟨h1, a, x, rfl, by rw [joinL_ab, if_pos h1]⟩
      · exact .inr (.inr ⟨h1, a, x, b, y, rfl, rfl, by rw [joinL_ab, if_neg (by omega), if_neg (by omega)]⟩)
      · exact .inr (.inl ⟨h1, b, y, rfl, by rw [joinL_ab, if_neg (by omega), if_pos h1]⟩)
theorem joinL_nil : joinL c ([] : List (κ × ν)) [] = [] := rfl
theorem joinF_len : ∀ (n : Nat) (x y : List (κ × ν)), (joinF c n x y).length ≤ n
  | 0, _, _ => Nat.le_refl _
  | n + 1, [], [] => Nat.zero_le _
  | n + 1, a :: x, [] => by unfold joinF; have := joinF_len n x []; simp only [List.length_cons]; omega
  | n + 1, [], b :: y => by unfold joinF; have := joinF_len n [] y; simp only [List.length_cons]; omega
  | n + 1, a :: x, b :: y => by
    unfold joinF
    have h1 := joinF_len n x (b :: y)
    have h2 := joinF_len n (a :: x) y
    have h3 := joinF_len n x y
    split
    · simp only [List.length_cons]; omega
    · split <;> simp only [List.length_cons] <;> omega
theorem joinL_len (x y : List (κ × ν)) : (joinL c x y).length ≤ x.length + y.length := joinF_len _ x y
end
open Go Go.RowKit
/-- the blocks of which K is said lie as they lay -/
structure KeepP (K : Nat → Prop) (A B : World) : Prop where
  size : A.heap.size ≤ B.heap.size
  same : ∀ g, K g → B.heap[g]? = A.heap[g]?
theorem KeepP.refl (K : Nat → Prop) (A : World) : KeepP K A A := ⟨Nat.le_refl _, fun _ _ => rfl⟩
theorem KeepP.trans {K : Nat → Prop} {A B C : World} (h : KeepP K A B) (k : KeepP K B C) : KeepP K A C := ⟨Nat.le_trans h.size k.size, fun g hg => (k.same g hg).trans (h.same g hg)⟩
theorem KeepP.below {K : Nat → Prop} {A B : World} {n : Nat} (h : Below n A B) (hK : ∀ g, K g → g < n) : KeepP K A B := ⟨h.size, fun g hg => h.block g (hK g hg)⟩
theorem KeepP.grown {K : Nat → Prop} {A B : World} {row : Option Nat} (h : A.grownBy B row) (hK : ∀ g, K g → g < A.heap.size ∧ some g ≠ row) : KeepP K A B := ⟨h.size, fun g hg => h.block g (hK g hg).1 (hK g hg).2⟩
theorem keepP_b {K : Nat → Prop} {w : World} (hK : ∀ g, K g → g < w.heap.size) (W : World) (l : Nat) (o o' : Obj) (hl : w.heap.size ≤ l) (h : W.heap[l]? = some o) (hc : o.isCells = false) (hw : o.isWalk = false) : KeepP K W (W.putObj l o') :=
  .below (belowK_b (Nat.le_refl _) W l o o' hl h hc hw) hK
theorem Blk.keptP {K : Nat → Prop} {A B : World} {g : Nat} {t : TypeId} {cs : Array Value} (h : Blk A g t cs) (hk : KeepP K A B) (hg : K g) : Blk B g t cs := (hk.same g hg).trans h
theorem Lies.keptP {K : Nat → Prop} {A B : World} {te : TypeId} {size : Nat} {α : Type} {E : α → List Value} {v : Value} {l : List α} (h : Lies A te size E v l) (hk : KeepP K A B) (hg : ∀ g, v.ownBlock = some g → K g) : Lies B te size E v l := h.kept fun g _ hv _ => hk.same g (hg g hv)
/-- how long a slice is -/
def slLenJ : Value → Nat
  | .slice _ n _ => n
  | _ => 0
end Sw
/- sorted.Join over string, swingle/api.Print: rows, side, the iterator. -/
set_option linter.unusedVariables false
set_option linter.unusedSimpArgs false
namespace Go.Proofs.YtjcbjocgachpjaaGreatDoor
open Go Go.RowKit Go.Shelf
open Sw
attribute [local go_sem] Oper.semAt_some
/-- a pair's cells -/
def pCSP (p : Option Pr × Option Pr) : Array Value := ([.int .i64 (p.1.getD ⟨0, 0, 0, 0, 0⟩).kind, .int .i64 (p.1.getD ⟨0, 0, 0, 0, 0⟩).mode, .int .u32 (p.1.getD ⟨0, 0, 0, 0, 0⟩).time, .int .i64 (p.1.getD ⟨0, 0, 0, 0, 0⟩).size, .int .u32 (p.1.getD ⟨0, 0, 0, 0, 0⟩).sum, .int .i64 (p.2.getD ⟨0, 0, 0, 0, 0⟩).kind, .int .i64 (p.2.getD ⟨0, 0, 0, 0, 0⟩).mode, .int .u32 (p.2.getD ⟨0, 0, 0, 0, 0⟩).time, .int .i64 (p.2.getD ⟨0, 0, 0, 0, 0⟩).size, .int .u32 (p.2.getD ⟨0, 0, 0, 0, 0⟩).sum, .bool p.1.isSome, .bool p.2.isSome]).toArray
set_option maxRecDepth 100000 in
theorem srtRowsSP_any (w : World) (bm : Nat) (xs : List (ByteArray × Pr)) (h : SMapSP w bm xs) :
    Calls Tryz.prog 42 #[.pointer (some ⟨bm, 0, none⟩)] w fun e w' => ∃ v, e = .returned (.tuple #[v, ordFSP]) ∧ w.ownsRow 0 100 6 v xs.length (xs.flatMap eCSP) ∧ ∃ n, w' = w.drewN n := by
  obtain ⟨v, hb, ho⟩ := h.row
  have hp := ho
  obtain ⟨A, c, rfl, _, _, _⟩ := SlV_of_any hp
  have c0 := hb.cell 0
  have c1 : w.cell? ⟨bm, 1, none⟩ = some (.slice A xs.length c) := hb.cell 1
  have HO := Lib.hid ho; clear ho hp hb h
  generalize xs.length = n at *
  go_enter Tryz.func42, Tryz.ntmps42
  go_wp2_with fail
  go_quiet (fail)
  go_wp2_with fail
  go_ret2
  exact ⟨_, rfl, HO.out, _, rfl⟩
set_option maxRecDepth 100000 in
set_option maxHeartbeats 2000000 in
theorem srtSideSP_any (w : World) (A1 A2 : Option Addr) (n1 n2 c1 c2 : Nat) (x y : List (ByteArray × Pr)) (hx : x.length = n1) (hy : y.length = n2) (h1 : SlOf w 6 eCSP A1 x) (h2 : SlOf w 6 eCSP A2 y) (k1 : ∀ e ∈ x, okS e.1) (k2 : ∀ e ∈ y, okS e.1) :
    Calls Tryz.prog 44 #[.slice A1 n1 c1, .slice A2 n2 c2, ordFSP] w fun e w' => e = .returned (.int .i64 (sideL ordS x y)) ∧ Below w.heap.size w w' := by
  cases y with
  | nil =>
    obtain rfl : n2 = 0 := by simpa using hy.symm
    go_enter Tryz.func44, Tryz.ntmps44
    go_wp2_with fail
    go_ret
    exact ⟨by unfold sideL; rfl, Below.refl _ _⟩
  | cons b y =>
    have e2 : ((n2 : Int) == 0) = false := by rw [beq_eq_false_iff_ne]; simp at hy; omega
    have p2 : (0 : Int) < n2 := by simp at hy; omega
    have r2 : 0 < n2 := by omega
    cases x with
    | nil =>
      obtain rfl : n1 = 0 := by simpa using hx.symm
      clear hy
      go_enter Tryz.func44, Tryz.ntmps44
      go_wp2_with fail
      go_ret
      exact ⟨by unfold sideL; rfl, Below.refl _ _⟩
    | cons a x =>
      have e1 : ((n1 : Int) == 0) = false := by rw [beq_eq_false_iff_ne]; simp at hx; omega
      have p1 : (0 : Int) < n1 := by simp at hx; omega
      have r1 : 0 < n1 := by omega
      obtain ⟨g1, o1, rfl, _, hc1⟩ := h1 (by simp)
      obtain ⟨g2, o2, rfl, _, hc2⟩ := h2 (by simp)
      have q1 := hc1 0 (by simp) 0 (by decide)
      have q2 := hc2 0 (by simp) 0 (by decide)
      simp only [eCSP, List.getElem?_cons_zero, List.getElem_cons_zero, Nat.zero_mul, Nat.add_zero] at q1 q2
      have HO := Lib.hid (fun W => orderS_any W a.1 b.1 (k1 a (List.mem_cons_self ..)) (k2 b (List.mem_cons_self ..)))
      have HS := Lib.hid (show sideL ordS (a :: x) (b :: y) = ordS a.1 b.1 from rfl)
      clear hc1 hc2 h1 h2 k1 k2 hx hy
      go_enter Tryz.func44, Tryz.ntmps44
      go_wp2_with fail
      go_still_tail 9, (by kernel_rfl)
      go_wp2_with fail
      refine (HO.out _).mono ?_
      rintro e w2 ⟨rfl, hb2⟩
      go_wp2_with fail
      go_ret
      exact ⟨by rw [HS.out]; rfl, (Below.refl _ _).drew.trans hb2⟩
end Go.Proofs.YtjcbjocgachpjaaGreatDoor
