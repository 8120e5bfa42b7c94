/- Several texts, joined for the limit of sixty files; each one opens with its own comment. -/
import Derived.Test.YtjcbjocgachpjaaGreatDoorJoin11
import Derived.RangeFuncFrom
import Derived.RangeFuncNested
import Derived.RangeFuncBound
import Derived.RangeFuncCalls
import Derived.RangeFuncLeaves
import Derived.Shelf.Abstract
import Derived.Shelf.RegionOpen
import Derived.WalkKit
import Derived.OwnWalkIn
import Derived.TacticsInMore
import Derived.LoopNIn
import Derived.LoopIn
import Derived.Maps.OwnIn
import Derived.Test.YtjcbjocgachpjaaGreatDoorJoin3
import Derived.Test.YtjcbjocgachpjaaGreatDoorJoin10
/- sorted.Map[string,swingle/api.Node]: Get, Put: things of several cells. -/
set_option linter.unusedVariables false
set_option linter.unusedSimpArgs false
namespace Go.Proofs.YtjcbjocgachpjaaGreatDoor
open Go Go.RowKit
open Sw
theorem infoVSN : (Tryz.prog.info? 43).map (·.size) = some 4 := by kernel_rfl
set_option maxRecDepth 100000 in
set_option maxHeartbeats 4000000 in
theorem srtGetSN_any (w : World) (bm : Nat) (xs : List (ByteArray × Nd)) (k : ByteArray) (h : SMapSN w bm xs) (hn : xs.length ≤ 1000000) (hk : okS k) :
    Calls Tryz.prog 115 #[.pointer (some ⟨bm, 0, none⟩), Value.string k] w fun e w' => e = .returned (.tuple #[.agg (((getN ordS k xs).getD ⟨0, 0, 0, ⟨#[]⟩⟩).c), .bool (inN ordS k xs)]) ∧ Below w.heap.size w w' := by
  have hb0 := (Below.refl w.heap.size w).alloc (Nat.le_refl _) (.cells (⟨0, 0, 0, ⟨#[]⟩⟩ : Nd).c 43)
  have hB0 := Blk.new w 43 (⟨0, 0, 0, ⟨#[]⟩⟩ : Nd).c
  have HM := Lib.hid (h.below hb0)
  have HS := Lib.hid (srtFindSN_any _ bm xs k HM.out hn hk)
  have HB0 := Lib.hid (And.intro hb0 hB0); clear hb0 hB0
  obtain ⟨T, hT⟩ : ∃ T, w.heap.size = T := ⟨_, rfl⟩
  have HT := Lib.hid hT; clear hT
  cases hin : inN ordS k xs with
  | false =>
    rw [get_miss k xs hin]
    unfold FindPostSN at HS
    rw [hin] at HS
    clear hin h
    simp only [Nd.c] at HS HB0 HM
    go_enter Tryz.func115, Tryz.ntmps115
    go_wp2_with fail
    refine HS.out.mono ?_
    rintro e w1 ⟨rfl, hb1⟩
    have hB1 := HB0.out.2.below hb1 HB0.out.2.lt
    have hbw := HB0.out.1.trans (hb1.mono HB0.out.1.size)
    rw [HT.out] at hB1
    rw [HT.out]
    have x0 := hB1.cell 0
    have x1 := hB1.cell 1
    have x2 := hB1.cell 2
    have x3 := hB1.cell 3
    simp at x0 x1 x2 x3
    have f0 := hB1.frozen 0
    have f1 := hB1.frozen 1
    have f2 := hB1.frozen 2
    have f3 := hB1.frozen 3
    have HF := Lib.hid (And.intro hB1 hbw); clear hB1 hbw hb1
    go_wp2_with fail
    refine bodyPost_ret (res_blk_tmp rfl _ _ T 43 (⟨0, 0, 0, ⟨#[]⟩⟩ : Nd).c _ rfl ?_ Tryz.underlying43 rfl infoVSN) rfl ⟨rfl, ?_⟩
    · exact ((((HF.out.1.put 0 (.int .i64 0)).put 1 (.int .i64 0)).put 2 (.int .u32 0)).put 3 (.string ⟨#[]⟩))
    · exact ((((HF.out.2.setCell (p := ⟨T, 0, none⟩) (by dsimp only; have := HT.out; omega) (.int .i64 0)).setCell (p := ⟨T, 1, none⟩) (by dsimp only; have := HT.out; omega) (.int .i64 0)).setCell (p := ⟨T, 2, none⟩) (by dsimp only; have := HT.out; omega) (.int .u32 0)).setCell (p := ⟨T, 3, none⟩) (by dsimp only; have := HT.out; omega) (.string ⟨#[]⟩))
  | true =>
    obtain ⟨hlt, hd⟩ := get_hit ordS_ord k xs hin
    rw [hd]
    unfold FindPostSN at HS
    rw [hin] at HS
    generalize lbN ordS k xs = i at *
    obtain ⟨x, hx⟩ : ∃ x, xs[i] = x := ⟨_, rfl⟩
    rw [hx, Option.getD_some]
    have HX := Lib.hid hx
    clear hin h hd hx
    simp only [Nd.c] at HS HB0 HM
    go_enter Tryz.func115, Tryz.ntmps115
    go_wp2_with fail
    refine HS.out.mono ?_
    rintro e w1 ⟨rfl, hb1⟩
    have hB1 := HB0.out.2.below hb1 HB0.out.2.lt
    have hbw := HB0.out.1.trans (hb1.mono HB0.out.1.size)
    obtain ⟨v, hb, ho⟩ := (HM.out.below hb1).row
    obtain ⟨A, c, rfl, _, _, hsl⟩ := SlV.of_own ho eCSN_len (by decide)
    obtain ⟨b, off, rfl, hbb, hcs⟩ := hsl (by omega)
    have hv1 : w1.cell? ⟨bm, 1, none⟩ = some (.slice (some ⟨b, off, none⟩) xs.length c) := hb.cell 1
    rw [HT.out] at hB1
    rw [HT.out]
    have x0 := hB1.cell 0
    have x1 := hB1.cell 1
    have x2 := hB1.cell 2
    have x3 := hB1.cell 3
    simp at x0 x1 x2 x3
    have f0 := hB1.frozen 0
    have f1 := hB1.frozen 1
    have f2 := hB1.frozen 2
    have f3 := hB1.frozen 3
    have y0 := hcs i hlt 1 (by omega)
    have y1 := hcs i hlt 2 (by omega)
    have y2 := hcs i hlt 3 (by omega)
    have y3 := hcs i hlt 4 (by omega)
    rw [HX.out] at y0 y1 y2 y3
    simp only [eCSN, List.getElem?_cons_succ, List.getElem?_cons_zero] at y0 y1 y2 y3
    have hi : (i : Int) < xs.length := by omega
    have HF := Lib.hid (And.intro hB1 hbw); clear hB1 hbw hb1 hcs hsl hb ho
    go_wp2_with fail
    refine bodyPost_ret (res_blk_tmp rfl _ _ T 43 x.2.c _ rfl ?_ Tryz.underlying43 rfl infoVSN) rfl ⟨rfl, ?_⟩
    · exact ((((HF.out.1.put 0 (.int .i64 x.2.kind)).put 1 (.int .i64 x.2.mode)).put 2 (.int .u32 x.2.time)).put 3 (.string x.2.data))
    · exact ((((HF.out.2.setCell (p := ⟨T, 0, none⟩) (by dsimp only; have := HT.out; omega) (.int .i64 x.2.kind)).setCell (p := ⟨T, 1, none⟩) (by dsimp only; have := HT.out; omega) (.int .i64 x.2.mode)).setCell (p := ⟨T, 2, none⟩) (by dsimp only; have := HT.out; omega) (.int .u32 x.2.time)).setCell (p := ⟨T, 3, none⟩) (by dsimp only; have := HT.out; omega) (.string x.2.data))
set_option maxRecDepth 100000 in
set_option maxHeartbeats 4000000 in
theorem srtPutSN_any (w : World) (bm : Nat) (xs : List (ByteArray × Nd)) (k : ByteArray) (v : Nd) (h : SMapSN w bm xs) (hn : xs.length + 1 ≤ 1000000) (hk : okS k) :
    Calls Tryz.prog 40 #[.pointer (some ⟨bm, 0, none⟩), Value.string k, (fun v => Value.agg v.c) v] w fun e w' => e = .returned (.bool (!inN ordS k xs)) ∧ SMapSN w' bm (putN ordS k v xs) ∧ w.grownBy w' (some bm) := by
  have hb0 := (Below.refl w.heap.size w).alloc (Nat.le_refl _) (.cells v.c 43)
  have hB0 := Blk.new w 43 v.c
  have HM := Lib.hid (h.below hb0)
  have HS := Lib.hid (srtFindSN_any _ bm xs k HM.out (by omega) hk)
  have HB0 := Lib.hid (And.intro hb0 hB0); clear hb0 hB0
  have hle := lbN_le (c := ordS) k xs
  cases hin : inN ordS k xs with
  | false =>
    have hd := put_miss k v xs hin
    have hln := put_len (c := ordS) k v xs
    rw [hin, if_neg (by simp)] at hln
    unfold FindPostSN at HS
    rw [hin] at HS
    obtain ⟨i, hi⟩ : ∃ i, lbN ordS k xs = i := ⟨_, rfl⟩
    rw [hi] at HS hle hd
    have HD := Lib.hid (And.intro hd hln); clear hd hln hin hi h
    simp only [Nd.c] at HS HB0 HM
    go_enter Tryz.func40, Tryz.ntmps40
    go_wp2_with fail
    refine HS.out.mono ?_
    rintro e w1 ⟨rfl, hb1⟩
    have hB1 := HB0.out.2.below hb1 HB0.out.2.lt
    obtain ⟨u, hb, ho⟩ := (HM.out.below hb1).row
    obtain ⟨A, c, rfl, _, _, _⟩ := SlV.of_own ho eCSN_len (by decide)
    have hv1 : w1.cell? ⟨bm, 1, none⟩ = some (.slice A xs.length c) := hb.cell 1
    have HC := Lib.hid (slCloneSN_any eCSN eCSN_len eCSN_one w1 _ xs (SlV.of_own ho eCSN_len (by decide)) (by omega))
    have HB := Lib.hid hb; clear hb ho
    have hb1S := hb1.size
    have HB1 := Lib.hid hb1; clear hb1
    go_wp2_with fail
    refine HC.out.mono ?_
    rintro e w2 ⟨v2, rfl, ho2, hb2⟩
    have hB2 := hB1.below hb2 hB1.lt
    have x0 := hB2.cell 0
    have x1 := hB2.cell 1
    have x2 := hB2.cell 2
    have x3 := hB2.cell 3
    simp at x0 x1 x2 x3
    have HB2 := Lib.hid (And.intro hB1 hB2); clear hB1 hB2
    obtain ⟨A2, c2, hv2, _, _, _⟩ := SlV_of_any ho2
    have hba : Below w2.heap.size w2 (w2.alloc (.cells (eCSN (k, v)).toArray 135)) := (Below.refl _ _).alloc (Nat.le_refl _) _
    have hlt2 := hb2.size
    have hown1 := own_kept ho2 hba
    have hbk := Blk.new w2 135 (eCSN (k, v)).toArray
    have HI := Lib.hid (slInsertSN_any (w2.alloc (.cells (eCSN (k, v)).toArray 135)) w1.heap.size v2 xs.length i w2.heap.size (xs.flatMap eCSN) 135 (eCSN (k, v)).toArray hown1 (flat1SN xs) hbk (own_ne ho2 _ (Nat.le_refl _)) rfl (by simpa using eCSN_one (k, v)) hle hn (by simp; omega))
    have HFin := Lib.hid (fun (v3 : Value) (w3 : World) (ho3 : w3.ownsRow w1.heap.size 135 5 v3 (xs.length + 1) ((xs.flatMap eCSN).take (i * 5) ++ (eCSN (k, v)) ++ (xs.flatMap eCSN).drop (i * 5))) (hbx : Blk w3 bm 127 #[ordFSN, .slice A xs.length c]) => (by
      have hd := HD.out.1
      have hxs : (xs.flatMap eCSN).take (i * 5) ++ (eCSN (k, v)) ++ (xs.flatMap eCSN).drop (i * 5) = (putN ordS k v xs).flatMap eCSN := by rw [hd, List.flatMap_append, List.flatMap_cons, flat_take eCSN_len, flat_drop eCSN_len, List.append_assoc]
      rw [hxs, ← HD.out.2] at ho3
      exact ⟨⟨v3, hbx.put 1 v3, own_wide (own_grown_typ ho3 (grown_put (grown_refl w3 (some bm)) 1 v3) hbx (by decide)) (Nat.zero_le _)⟩, put_up ordS_ord k v xs HM.out.up, fun e he => by
        rcases put_mem k v xs e he with rfl | he
        · exact hk
        · exact HM.out.ok e he⟩ : SMapSN (w3.setCell ⟨bm, 1, none⟩ v3) bm (putN ordS k v xs)))
    have HG := Lib.hid (fun (v3 : Value) (w3 : World) (hg3 : (w2.alloc (.cells (eCSN (k, v)).toArray 135)).grownBy w3 v2.ownBlock) => (by
      have h1 := grown_below (row := some bm) (HB0.out.1.trans (HB1.out.mono HB0.out.1.size))
      have hb2a := hb2.trans (hba.mono hb2.size)
      have h2 := grown_trans h1 ⟨hb2a.os, hb2a.tape, hb2a.output, hb2a.size, fun k hk _ => hb2a.block k hk⟩
      have h3 := grown_sub h2 hg3 (fun k hk => by have := (ho2.lt k hk).1; have := HB0.out.1.size; omega)
      exact ⟨grown_put h3 1 v3, (HB.out.below hb2a HB.out.lt).grown hg3 (fun e => by have := (ho2.lt bm e.symm).1; have := HB.out.lt; omega)⟩ : w.grownBy (w3.setCell ⟨bm, 1, none⟩ v3) (some bm) ∧ Blk w3 bm 127 #[ordFSN, .slice A xs.length c]))
    clear HC ho2 hb2 hba hown1 hbk
    subst hv2
    unfold InsPostSN at HI
    generalize hrw : Value.ownBlock _ = rw2 at *
    clear hrw
    simp only [eCSN, List.toList_toArray] at HI HFin HG
    go_wp2_with fail
    refine HI.out.mono ?_
    rintro e w3 ⟨g3, cap3, rfl, ho3, hg3, hr3⟩
    obtain ⟨hgf, hbx⟩ := HG.out (.slice (some ⟨g3, 0, none⟩) (xs.length + 1) cap3) w3 hg3
    have hF := HFin.out _ w3 ho3 hbx
    have hc1 : w3.cell? ⟨bm, 1, none⟩ = some (.slice A xs.length c) := hbx.cell 1
    have hf1 := hbx.frozen 1
    have HZ := Lib.hid (And.intro hF hgf); clear hF hgf hbx ho3 hg3 hr3
    go_wp2_with fail
    go_ret
    exact ⟨rfl, HZ.out.1, HZ.out.2⟩
  | true =>
    have hlt := inN_lt ordS_ord hin
    have hd := put_hit k v xs hin
    have hkk : ordS (xs[lbN ordS k xs]).1 k = 0 := by
      have := inN_at ordS_ord (k := k) hlt
      rw [hin] at this
      exact of_decide_eq_true this.symm
    have hkx : ∀ (j : Nat) (hj : j < xs.length), j = lbN ordS k xs → (xs[j]).1 = k := by
      intro j hj e
      subst e
      exact ordS_ord.zero _ _ hkk
    unfold FindPostSN at HS
    rw [hin] at HS
    obtain ⟨i, hi⟩ : ∃ i, lbN ordS k xs = i := ⟨_, rfl⟩
    rw [hi] at HS hlt hd
    have hkx2 := hkx i hlt hi.symm
    have HD := Lib.hid (And.intro hd hkx2); clear hkx2 hd hin hi h hle hkk hkx
    simp only [Nd.c] at HS HB0 HM
    go_enter Tryz.func40, Tryz.ntmps40
    go_wp2_with fail
    refine HS.out.mono ?_
    rintro e w1 ⟨rfl, hb1⟩
    have hB1 := HB0.out.2.below hb1 HB0.out.2.lt
    obtain ⟨u, hb, ho⟩ := (HM.out.below hb1).row
    obtain ⟨A, c, rfl, _, _, _⟩ := SlV.of_own ho eCSN_len (by decide)
    have hv1 : w1.cell? ⟨bm, 1, none⟩ = some (.slice A xs.length c) := hb.cell 1
    have HC := Lib.hid (slCloneSN_any eCSN eCSN_len eCSN_one w1 _ xs (SlV.of_own ho eCSN_len (by decide)) (by omega))
    have HB := Lib.hid hb; clear hb ho
    have hb1S := hb1.size
    have HB1 := Lib.hid hb1; clear hb1
    go_wp2_with fail
    refine HC.out.mono ?_
    rintro e w2 ⟨v2, rfl, ho2, hb2⟩
    have hB2 := hB1.below hb2 hB1.lt
    have x0 := hB2.cell 0
    have x1 := hB2.cell 1
    have x2 := hB2.cell 2
    have x3 := hB2.cell 3
    simp at x0 x1 x2 x3
    have HB2 := Lib.hid (And.intro hB1 hB2); clear hB1 hB2
    obtain ⟨g, cap, cur, rfl, hbg, hg, hnc, hcm, hcs, htk⟩ := own_form ho2 (by omega)
    have hgl := hg.lt
    have hst := own_setCells [.int .i64 v.kind, .int .i64 v.mode, .int .u32 v.time, .string v.data] (i * 5 + 1) w2 _ ho2 (by simp; omega)
    have hgr := grown_setCells (a := w2) (g := g) [.int .i64 v.kind, .int .i64 v.mode, .int .u32 v.time, .string v.data] (i * 5 + 1) w2 (grown_refl _ _)
    have hfl := flat_put eCSN_len xs i hlt (k, v) 1 [.int .i64 v.kind, .int .i64 v.mode, .int .u32 v.time, .string v.data] (by simp) (by simp [eCSN, HD.out.2])
    rw [hfl, ← HD.out.1] at hst
    have hl : (putN ordS k v xs).length = xs.length := by rw [HD.out.1, List.length_set]
    rw [← hl] at hst
    have hbx : Blk (w2.setCells g (i * 5 + 1) [.int .i64 v.kind, .int .i64 v.mode, .int .u32 v.time, .string v.data]) bm 127 #[ordFSN, .slice A xs.length c] := (HB.out.below hb2 HB.out.lt).grown hgr (fun e => by have := HB.out.lt; cases e; omega)
    have hF : SMapSN ((w2.setCells g (i * 5 + 1) [.int .i64 v.kind, .int .i64 v.mode, .int .u32 v.time, .string v.data]).setCell ⟨bm, 1, none⟩ (.slice (some ⟨g, 0, none⟩) (putN ordS k v xs).length cap)) bm (putN ordS k v xs) :=
      ⟨⟨_, hbx.put 1 _, own_wide (own_grown_typ hst (grown_put (grown_refl _ (some bm)) 1 _) hbx (by decide)) (Nat.zero_le _)⟩, put_up ordS_ord k v xs HM.out.up, fun e he => by
        rcases put_mem k v xs e he with rfl | he
        · exact hk
        · exact HM.out.ok e he⟩
    have hGf : w.grownBy ((w2.setCells g (i * 5 + 1) [.int .i64 v.kind, .int .i64 v.mode, .int .u32 v.time, .string v.data]).setCell ⟨bm, 1, none⟩ (.slice (some ⟨g, 0, none⟩) (putN ordS k v xs).length cap)) (some bm) := by
      have h1 := grown_below (row := some bm) (HB0.out.1.trans (HB1.out.mono HB0.out.1.size))
      have h2 := grown_trans h1 ⟨hb2.os, hb2.tape, hb2.output, hb2.size, fun k hk _ => hb2.block k hk⟩
      exact grown_put (grown_sub h2 hgr (fun k hk => by cases hk; have := HB0.out.1.size; omega)) 1 _
    rw [hl] at hF hGf
    have hx0 : ∀ j, j < cap * 5 → (w2.cell? ⟨g, j, none⟩).isSome = true := fun j hj => by
      rw [hg.cell, Array.getElem?_eq_getElem (by omega)]; rfl
    obtain ⟨old0, hold0⟩ := Option.isSome_iff_exists.1 (hx0 (i * 5 + 1) (by omega))
    have hfz0 := hg.frozen (i * 5 + 1)
    obtain ⟨old1, hold1⟩ := Option.isSome_iff_exists.1 (hx0 (i * 5 + 1 + 1) (by omega))
    have hfz1 := hg.frozen (i * 5 + 1 + 1)
    obtain ⟨old2, hold2⟩ := Option.isSome_iff_exists.1 (hx0 (i * 5 + 1 + 1 + 1) (by omega))
    have hfz2 := hg.frozen (i * 5 + 1 + 1 + 1)
    obtain ⟨old3, hold3⟩ := Option.isSome_iff_exists.1 (hx0 (i * 5 + 1 + 1 + 1 + 1) (by omega))
    have hfz3 := hg.frozen (i * 5 + 1 + 1 + 1 + 1)
    have hbc0 := HB.out.below hb2 HB.out.lt
    have hne1 : bm ≠ g := fun e => by have := HB.out.lt; omega
    have hbc4 := (((hbc0.far (p := ⟨g, i * 5 + 1, none⟩) hne1 (.int .i64 v.kind)).far (p := ⟨g, i * 5 + 1 + 1, none⟩) hne1 (.int .i64 v.mode)).far (p := ⟨g, i * 5 + 1 + 1 + 1, none⟩) hne1 (.int .u32 v.time)).far (p := ⟨g, i * 5 + 1 + 1 + 1 + 1, none⟩) hne1 (.string v.data)
    have hc3 := hbc4.cell 1
    have hf3 := hbc4.frozen 1
    simp at hc3
    have HZ := Lib.hid (And.intro hF hGf); clear hF hGf hbx hst hgr hfl hl hx0 hg htk ho2 hb2 hnc hcs hcm hbc0 hbc4
    have hi2 : (i : Int) < xs.length := by omega
    go_wp2_with fail
    go_ret
    exact ⟨rfl, HZ.out.1, HZ.out.2⟩
end Go.Proofs.YtjcbjocgachpjaaGreatDoor
/- Slices whose memory is known by its block: what keeps it; what an iterator asks of a round. Over any program. -/
set_option linter.unusedVariables false
set_option linter.unusedSimpArgs false
namespace Sw
open Go Go.RowKit
/-- the slice v is the elements l, in a block that is known -/
def Lies (w : World) (te : TypeId) (size : Nat) {α : Type} (E : α → List Value) (v : Value) (l : List α) : Prop :=
  ∃ A c, v = .slice A l.length c ∧ l.length ≤ c ∧ c ≤ maxLen ∧ (0 < l.length → ∃ g off cur, A = some ⟨g, off, none⟩ ∧ Blk w g te cur ∧ (cur.toList.drop off).take (l.length * size) = l.flatMap E)
theorem blk_ownF0 {W W' : World} {row : Option Nat} {g : Nat} {t : TypeId} {cs : Array Value} (h : Blk W g t cs) (hg : W.grownBy W' row) (hr : ∀ r, row = some r → ∃ o : Obj, W.heap[r]? = some o ∧ o.isCells = false) : Blk W' g t cs :=
  h.grown hg (fun e => by
    obtain ⟨o, ho, hc⟩ := hr g e.symm
    unfold Blk at h
    rw [h] at ho
    cases ho
    cases hc)
section
variable {w w' : World} {te : TypeId} {size : Nat} {α : Type} {E : α → List Value} {v : Value} {l : List α}
theorem Lies.kept (h : Lies w te size E v l) (hk : ∀ g cur, v.ownBlock = some g → Blk w g te cur → w'.heap[g]? = w.heap[g]?) : Lies w' te size E v l := by
  obtain ⟨A, c, rfl, h1, h2, h3⟩ := h
  refine ⟨A, c, rfl, h1, h2, fun hp => ?_⟩
  obtain ⟨g, off, cur, rfl, hb, hx⟩ := h3 hp
  exact ⟨g, off, cur, rfl, (hk g cur rfl hb).trans hb, hx⟩
theorem Lies.below (h : Lies w te size E v l) (hb : Below w.heap.size w w') : Lies w' te size E v l := h.kept fun g _ _ hg => hb.block g hg.lt
theorem Lies.nil (w : World) (te : TypeId) (size : Nat) (E : α → List Value) : Lies w te size E (.slice none 0 0) [] := ⟨none, 0, rfl, Nat.le_refl _, by simp [maxLen], fun h => absurd h (by simp)⟩
theorem Lies.of_own {base : Nat} {n : Nat} (h : w.ownsRow base te size v n (l.flatMap E)) (hE : ∀ x, (E x).length = size) (hs : 0 < size) : Lies w te size E v l := by
  have hn : l.length = n := by
    have := h.1
    rw [flat_len hE] at this
    exact Nat.eq_of_mul_eq_mul_right hs this
  subst hn
  rcases h.2 with ⟨rfl, h0⟩ | ⟨g, cap, cur, rfl, hb, hh, hc, hm, hsz, hx⟩
  · exact ⟨none, 0, by rw [h0], by omega, by simp [maxLen], fun hp => by omega⟩
  · exact ⟨_, cap, rfl, hc, hm, fun hp => ⟨g, 0, cur, rfl, hh, by rw [List.drop_zero]; exact hx⟩⟩
theorem Lies.slv (h : Lies w te size E v l) (hE : ∀ x, (E x).length = size) : SlV w size E v l := by
  obtain ⟨A, c, rfl, h1, h2, h3⟩ := h
  refine ⟨A, c, rfl, h1, h2, fun hp => ?_⟩
  obtain ⟨g, off, cur, rfl, hb, hx⟩ := h3 hp
  refine ⟨g, off, rfl, hb.lt, fun i hi j hj => ?_⟩
  have hlt : i * size + j < l.length * size := by
    have : (i + 1) * size ≤ l.length * size := Nat.mul_le_mul_right size hi
    rw [Nat.add_mul] at this
    omega
  rw [hb.cell, ← flat_get hE l i hi j hj, ← hx, List.getElem?_take, if_pos hlt, List.getElem?_drop, Array.getElem?_toList, Nat.add_assoc]
theorem Lies.drop {g off c : Nat} (h : Lies w te size E (.slice (some ⟨g, off, none⟩) l.length c) l) (hE : ∀ x, (E x).length = size) (k : Nat) (hk : k ≤ l.length) (a : Addr) (ha : k < c → a = ⟨g, off + k * size, none⟩) :
    Lies w te size E (.slice (some a) (l.length - k) (c - k)) (l.drop k) := by
  obtain ⟨A, c', hv, h1, h2, h3⟩ := h
  obtain ⟨rfl, hc⟩ : some (⟨g, off, none⟩ : Addr) = A ∧ c = c' := by injection hv with e1 e2 e3; exact ⟨e1, e3⟩
  subst hc
  refine ⟨some a, c - k, by rw [List.length_drop], by rw [List.length_drop]; omega, by omega, fun hp => ?_⟩
  rw [List.length_drop] at hp
  obtain ⟨g', off', cur, hA, hb, hx⟩ := h3 (by omega)
  have hA' : (⟨g, off, none⟩ : Addr) = ⟨g', off', none⟩ := Option.some.inj hA
  have e1 : g = g' := congrArg Addr.block hA'
  have e2 : off = off' := congrArg Addr.off hA'
  subst e1
  subst e2
  refine ⟨g, off + k * size, cur, by rw [ha (by omega)], hb, ?_⟩
  rw [flat_drop hE, ← hx, List.length_drop, List.drop_take, List.drop_drop]
  congr 1
  rw [Nat.sub_mul]
end
theorem Lies.ownF {w w' : World} {te : TypeId} {size : Nat} {α : Type} {E : α → List Value} {v : Value} {l : List α} {row : Option Nat} (h : Lies w te size E v l) (hg : w.grownBy w' row) (hr : ∀ r, row = some r → ∃ o : Obj, w.heap[r]? = some o ∧ o.isCells = false) : Lies w' te size E v l :=
  h.kept fun g cur _ hb => by
    have := blk_ownF0 hb hg hr
    unfold Blk at this hb
    rw [this, hb]
/-- what an iterator over a slice asks of a round: its box and the slice's block lie as they lay -/
structure KeepIt (gb : Nat) (v : Value) (A B : World) : Prop where
  size : A.heap.size ≤ B.heap.size
  box : B.heap[gb]? = A.heap[gb]?
  row : ∀ g, v.ownBlock = some g → B.heap[g]? = A.heap[g]?
theorem KeepIt.trans {gb : Nat} {v : Value} {A B C : World} (h : KeepIt gb v A B) (k : KeepIt gb v B C) : KeepIt gb v A C := ⟨Nat.le_trans h.size k.size, k.box.trans h.box, fun g hg => (k.row g hg).trans (h.row g hg)⟩
theorem KeepIt.below {gb : Nat} {v : Value} {A B : World} {n : Nat} (h : Below n A B) (h1 : gb < n) (h2 : ∀ g, v.ownBlock = some g → g < n) : KeepIt gb v A B := ⟨h.size, h.block gb h1, fun g hg => h.block g (h2 g hg)⟩
theorem keepIt_b {gb : Nat} {v : Value} {w : World} (h1 : gb < w.heap.size) (h2 : ∀ g, v.ownBlock = some g → g < w.heap.size) (W : World) (l : Nat) (o o' : Obj) (hl : w.heap.size ≤ l) (h : W.heap[l]? = some o) (hc : o.isCells = false) (hw : o.isWalk = false) : KeepIt gb v W (W.putObj l o') :=
  .below (belowK_b (Nat.le_refl _) W l o o' hl h hc hw) h1 h2
theorem blk_ownF {W W' : World} {row : Option Nat} {g : Nat} {t : TypeId} {cs : Array Value} (h : Blk W g t cs) (hg : W.grownBy W' row) (hr : ∀ r, row = some r → ∃ o : Obj, W.heap[r]? = some o ∧ o.isCells = false) : Blk W' g t cs :=
  h.grown hg (fun e => by
    obtain ⟨o, ho, hc⟩ := hr g e.symm
    unfold Blk at h
    rw [h] at ho
    cases ho
    cases hc)
theorem keeps_belowF {W W' : World} (h : Below W.heap.size W W') : KeepsOthers W W' := ⟨h.size, fun k o hk _ => by rw [h.block k (Array.getElem?_eq_some_iff.1 hk).1]; exact hk⟩
theorem keeps_grownF {W W' : World} {g : Nat} {t : TypeId} {cs : Array Value} (h : W.grownBy W' (some g)) (hb : Blk W g t cs) : KeepsOthers W W' := ⟨h.size, fun k o hk hc => by
  have hlt := (Array.getElem?_eq_some_iff.1 hk).1
  by_cases e : k = g
  · subst e
    unfold Blk at hb
    rw [hb] at hk
    cases hk
    cases hc
  · rw [h.block k hlt (by simpa using e)]; exact hk⟩
theorem own_ownF {W W' : World} {row : Option Nat} {base : Nat} {e : TypeId} {size n : Nat} {v : Value} {xs : List Value} (h : W.ownsRow base e size v n xs) (hg : W.grownBy W' row) (hr : ∀ r, row = some r → ∃ o : Obj, W.heap[r]? = some o ∧ o.isCells = false) : W'.ownsRow base e size v n xs :=
  h.kept hg (by
    rcases h.2 with ⟨rfl, _⟩ | ⟨g, cap, cur, rfl, _, hh, _⟩
    · exact .inl rfl
    · right
      intro he
      obtain ⟨o, ho, hc⟩ := hr g he.symm
      rw [hh] at ho
      cases ho
      cases hc)
/-- 'append(l, x)' inside a fence, in a round too: x lies in a block of its own -/
theorem wpListIn_app {F : Fence} {nF : Nat} {P : Program} {w : World} {ops : Array Oper} {rest : List Oper} {o : Oper} {a : Act} {Q : Exit → Act → World → Prop} (hgd : o.guard = none) (s x : Operand) (t : TypeId)
    (ho : o.op = .call { callee := .builtin .append, args := #[s, x], argTypes := #[t, t] })
    (base : Nat) (e : TypeId) (z : Value) (size bytes : Nat) (ht : P.underlying t = some (.slice e)) (hi : (P.info? e).map (fun i => (i.zero, i.size, i.bytes)) = some (some z, size, bytes))
    (hzs : z.cells.size = size) (hsz : 0 < size)
    (v : Value) (n : Nat) (xs : List Value) (hs : a.eval s = v) (hown : w.ownsRow base e size v n xs)
    (B : Nat) (c : Nat) (news : Array Value) (te : TypeId) (hx : a.eval x = .slice (some ⟨B, 0, none⟩) 1 c) (hB : Blk w B te news) (hl : news.size = size) (h1 : ∀ u ∈ news.toList, u.oneCell' = true)
    (hn : n + 1 ≤ 1000000) (hby : bytes ≤ 1000000) (hbase : base ≤ w.heap.size) (H : Nat) (hH : w.heap.size = H)
    (h : ∀ g cap w', w'.ownsRow base e size (.slice (some ⟨g, 0, none⟩) (n + 1) cap) (n + 1) (xs ++ news.toList) → w.grownBy w' v.ownBlock → (v.ownBlock = some g ∨ g = H) → g < w'.heap.size → wpListIn F nF P ops Q rest (a.put o.dst (.slice (some ⟨g, 0, none⟩) (n + 1) cap)) w') :
    wpListIn F nF P ops Q (o :: rest) a w := by
  obtain ⟨i, hi, hz, hs2, hb⟩ := info_parts hi
  refine wpListIn_append_own_at (w := w) hgd s x t ho base e i z size bytes ht hi hz hs2 hb hzs hsz v n xs hs hown ⟨B, 0, none⟩ 1 c news.toList hx (by simpa using hl) (World.news_of_block hB) h1 (by unfold maxLen; omega) ?_ hbase ?_
  · calc (n + 1) * bytes ≤ 1000000 * 1000000 := Nat.mul_le_mul hn hby
      _ ≤ 140737488355328 := by decide
  · intro v' w' h2 h3 _ h5
    obtain ⟨g, cap, rfl, _, hlt⟩ := h2.form (by omega)
    refine h g cap w' h2 h3 ?_ hlt
    rcases h5 with h5 | h5
    · exact .inl (by rw [← h5]; rfl)
    · right
      have : g = w.heap.size := by simpa [Value.ownBlock] using h5
      rw [this, hH]
theorem own_ne_blk {w : World} {base : Nat} {e : TypeId} {size n : Nat} {v : Value} {xs : List Value} (h : w.ownsRow base e size v n xs) {g : Nat} {t : TypeId} {cs : Array Value} (hB : Blk w g t cs) (hne : e ≠ t) : v.ownBlock ≠ some g := by
  intro he
  rcases h.2 with ⟨rfl, _⟩ | ⟨g', cap, cur, rfl, _, hg', _⟩
  · cases he
  · have : g' = g := by simpa [Value.ownBlock] using he
    subst this
    exact Blk.other (hg' : Blk w g' e cur) hB hne rfl
theorem own_cells {W : World} {base : Nat} {e : TypeId} {size n : Nat} {v : Value} {xs : List Value} (h : W.ownsRow base e size v n xs) : ∀ (j : Nat) (o : Obj), v.ownBlock = some j → W.heap[j]? = some o → o.isCells = true := by
  intro j o hj ho
  rcases h.2 with ⟨rfl, _⟩ | ⟨g, cap, cur, rfl, _, hh, _⟩
  · cases hj
  · have : g = j := by simpa [Value.ownBlock] using hj
    subst this
    rw [hh] at ho
    cases ho
    rfl
/-- a round that appends to a row in a box, and nothing else: what it keeps -/
structure AppBody (T g : Nat) (tS e : TypeId) (size n : Nat) (v' : Value) (xs : List Value) (W W' : World) : Prop where
  keeps : KeepsOthers W W'
  below : Below T W W'
  box : Blk W' g tS #[v']
  own : W'.ownsRow T e size v' n xs
  far : ∀ g' t cs, Blk W g' t cs → t ≠ e → g' ≠ g → Blk W' g' t cs
  typ : ∀ t cs, Blk W g t cs → t = tS
theorem app_pre {W W0 w5 : World} {T g : Nat} {tS e : TypeId} {size n : Nat} {v : Value} {xs : List Value} (b1 : Blk W g tS #[v]) (ho : W.ownsRow T e size v n xs) (hb0 : Below W.heap.size W W0) (hgrow1 : W0.grownBy w5 v.ownBlock) (hne : e ≠ tS) :
    Blk w5 g tS #[v] := (b1.below hb0 b1.lt).grown hgrow1 (fun h => own_ne_blk ho b1 hne h.symm)
theorem app_body {W W0 w5 : World} {T g : Nat} {tS e : TypeId} {size n gN cap : Nat} {v : Value} {xs ys : List Value} (b1 : Blk W g tS #[v]) (ho : W.ownsRow T e size v n xs) (hb0 : Below W.heap.size W W0) (hgrow1 : W0.grownBy w5 v.ownBlock)
    (hown1 : w5.ownsRow T e size (.slice (some ⟨gN, 0, none⟩) (n + 1) cap) (n + 1) ys) (hT : T ≤ W.heap.size) (hgT : T ≤ g) (hne : e ≠ tS) :
    AppBody T g tS e size (n + 1) (.slice (some ⟨gN, 0, none⟩) (n + 1) cap) ys W (w5.setCell ⟨g, 0, none⟩ (.slice (some ⟨gN, 0, none⟩) (n + 1) cap)) := by
  have hb5 := app_pre b1 ho hb0 hgrow1 hne
  have ho0 := own_kept ho hb0
  refine ⟨((keeps_belowF hb0).trans (KeepsOthers.of_grownBy hgrow1 (own_cells ho0))).trans (KeepsOthers.setCell _ _ _), ?_, hb5.put 0 _, ?_, fun g' t cs h ht hg => ?_, fun t cs h => ?_⟩
  · exact ((hb0.mono hT).grown hgrow1 (Nat.le_trans hT hb0.size) (fun k hk => (ho.lt k hk).1)).setCell (p := ⟨g, 0, none⟩) hgT _
  · exact hown1.kept (grown_put (grown_refl w5 (some g)) 0 _) (.inr (own_ne_blk hown1 hb5 hne))
  · exact ((h.below hb0 h.lt).grown hgrow1 (fun e' => own_ne_blk ho h (Ne.symm ht) e'.symm)).far (p := ⟨g, 0, none⟩) hg _
  · unfold Blk at h b1
    rw [b1] at h
    injection h with h
    injection h with _ h
    exact h.symm
theorem res_cell_sl {P : Program} {fn : Func} {p : Tmp} {ty e : TypeId} (h : fn.results = #[.cell p ty]) (tmps : Array Value) (w : World) (g : Nat) (t : TypeId) (v : Value)
    (hp : tmps.getD p undef = .pointer (some ⟨g, 0, none⟩)) (hg : Blk w g t #[v]) (hu : P.underlying ty = some (.slice e)) : (results fn tmps).run P w = .ok v w := by
  have hp' : tmps[p]?.getD undef = .pointer (some ⟨g, 0, none⟩) := by simpa using hp
  have hc : w.cell? ⟨g, 0, none⟩ = some v := by have := hg.cell 0; simpa using this
  simp [results, h, hp', asAddr, loadVar, isAgg, run_underlying hu, run_load, hc]
end Sw
