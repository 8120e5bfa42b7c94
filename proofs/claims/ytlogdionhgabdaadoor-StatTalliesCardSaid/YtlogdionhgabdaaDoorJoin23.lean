/- Several texts, joined for the limit of sixty files; each one opens with its own comment. -/
import Derived.Test.YtlogdionhgabdaaDoorJoin22
/- sorted.Map[int,int]: Get, Put. -/
set_option linter.unusedVariables false
set_option linter.unusedSimpArgs false
namespace Go.Proofs.YtlogdionhgabdaaDoor
open Go Go.RowKit
open Sw
set_option maxRecDepth 100000 in
set_option maxHeartbeats 2000000 in
theorem srtGetII_any (w : World) (bm : Nat) (xs : List (Int × Int)) (k : Int) (h : SMapII w bm xs) (hn : xs.length ≤ 1000000) (hk : okI k) :
    Calls Tryd.prog 17 #[.pointer (some ⟨bm, 0, none⟩), Value.int .i64 k] w fun e w' => e = .returned (.tuple #[(Value.int .i64) ((getN ordI k xs).getD 0), .bool (inN ordI k xs)]) ∧ Below w.heap.size w w' := by
  have HS := Lib.hid (srtFindII_any w bm xs k h hn hk)
  have HM := Lib.hid h
  cases hin : inN ordI k xs with
  | false =>
    rw [get_miss k xs hin]
    unfold FindPostII at HS
    rw [hin] at HS
    clear hin h
    go_enter Tryd.func17, Tryd.ntmps17
    go_wp2_with fail
    refine HS.out.mono ?_
    rintro e w1 ⟨rfl, hb1⟩
    go_wp2_with fail
    go_ret2
    exact ⟨rfl, hb1⟩
  | true =>
    obtain ⟨hlt, hd⟩ := get_hit ordI_ord k xs hin
    rw [hd]
    unfold FindPostII at HS
    rw [hin] at HS
    generalize lbN ordI k xs = i at *
    obtain ⟨x, hx⟩ : ∃ x, xs[i] = x := ⟨_, rfl⟩
    rw [hx, Option.getD_some]
    have HX := Lib.hid hx
    clear hin h hd hx
    go_enter Tryd.func17, Tryd.ntmps17
    go_wp2_with fail
    refine HS.out.mono ?_
    rintro e w1 ⟨rfl, hb1⟩
    obtain ⟨v, hb, ho⟩ := (HM.out.below hb1).row
    obtain ⟨A, c, rfl, _, _, hsl⟩ := SlV.of_own ho eCII_len (by decide)
    obtain ⟨b, off, rfl, hbb, hcs⟩ := hsl (by omega)
    have hv1 : w1.cell? ⟨bm, 1, none⟩ = some (.slice (some ⟨b, off, none⟩) xs.length c) := hb.cell 1
    have hc1 := hcs i hlt 1 (by omega)
    rw [HX.out] at hc1
    simp only [eCII, List.getElem?_cons_succ, List.getElem?_cons_zero] at hc1
    have hi : (i : Int) < xs.length := by omega
    have HB1 := Lib.hid hb1
    clear hcs hsl hb ho hb1
    go_wp2_with fail
    go_ret2
    exact ⟨rfl, HB1.out⟩
set_option maxRecDepth 100000 in
set_option maxHeartbeats 4000000 in
theorem srtPutII_any (w : World) (bm : Nat) (xs : List (Int × Int)) (k : Int) (v : Int) (h : SMapII w bm xs) (hn : xs.length + 1 ≤ 1000000) (hk : okI k) :
    Calls Tryd.prog 19 #[.pointer (some ⟨bm, 0, none⟩), Value.int .i64 k, (Value.int .i64) v] w fun e w' => e = .returned (.bool (!inN ordI k xs)) ∧ SMapII w' bm (putN ordI k v xs) ∧ w.grownBy w' (some bm) := by
  have HS := Lib.hid (srtFindII_any w bm xs k h (by omega) hk)
  have HM := Lib.hid h
  have hle := lbN_le (c := ordI) k xs
  cases hin : inN ordI k xs with
  | false =>
    have hd := put_miss k v xs hin
    have hln := put_len (c := ordI) k v xs
    rw [hin, if_neg (by simp)] at hln
    unfold FindPostII at HS
    rw [hin] at HS
    obtain ⟨i, hi⟩ : ∃ i, lbN ordI k xs = i := ⟨_, rfl⟩
    rw [hi] at HS hle hd
    have HD := Lib.hid (And.intro hd hln); clear hd hln hin hi h
    go_enter Tryd.func19, Tryd.ntmps19
    go_wp2_with fail
    refine HS.out.mono ?_
    rintro e w1 ⟨rfl, hb1⟩
    obtain ⟨u, hb, ho⟩ := (HM.out.below hb1).row
    obtain ⟨A, c, rfl, _, _, _⟩ := SlV.of_own ho eCII_len (by decide)
    have hv1 : w1.cell? ⟨bm, 1, none⟩ = some (.slice A xs.length c) := hb.cell 1
    have HC := Lib.hid (slCloneII_any eCII eCII_len eCII_one w1 _ xs (SlV.of_own ho eCII_len (by decide)) (by omega))
    have HB := Lib.hid hb; clear hb ho
    have hb1S := hb1.size
    have HB1 := Lib.hid hb1; clear hb1
    go_wp2_with fail
    refine HC.out.mono ?_
    rintro e w2 ⟨v2, rfl, ho2, hb2⟩
    obtain ⟨A2, c2, hv2, _, _, _⟩ := SlV_of_any ho2
    have hba : Below w2.heap.size w2 (w2.alloc (.cells (eCII (k, v)).toArray 56)) := (Below.refl _ _).alloc (Nat.le_refl _) _
    have hlt2 := hb2.size
    have hown1 := own_kept ho2 hba
    have hbk := Blk.new w2 56 (eCII (k, v)).toArray
    have HI := Lib.hid (slInsertII_any (w2.alloc (.cells (eCII (k, v)).toArray 56)) w1.heap.size v2 xs.length i w2.heap.size (xs.flatMap eCII) 56 (eCII (k, v)).toArray hown1 (flat1II xs) hbk (own_ne ho2 _ (Nat.le_refl _)) rfl (by simpa using eCII_one (k, v)) hle hn (by simp; omega))
    have HFin := Lib.hid (fun (v3 : Value) (w3 : World) (ho3 : w3.ownsRow w1.heap.size 56 2 v3 (xs.length + 1) ((xs.flatMap eCII).take (i * 2) ++ (eCII (k, v)) ++ (xs.flatMap eCII).drop (i * 2))) (hbx : Blk w3 bm 54 #[ordFII, .slice A xs.length c]) => (by
      have hd := HD.out.1
      have hxs : (xs.flatMap eCII).take (i * 2) ++ (eCII (k, v)) ++ (xs.flatMap eCII).drop (i * 2) = (putN ordI k v xs).flatMap eCII := by rw [hd, List.flatMap_append, List.flatMap_cons, flat_take eCII_len, flat_drop eCII_len, List.append_assoc]
      rw [hxs, ← HD.out.2] at ho3
      exact ⟨⟨v3, hbx.put 1 v3, own_wide (own_grown_typ ho3 (grown_put (grown_refl w3 (some bm)) 1 v3) hbx (by decide)) (Nat.zero_le _)⟩, put_up ordI_ord k v xs HM.out.up, fun e he => by
        rcases put_mem k v xs e he with rfl | he
        · exact hk
        · exact HM.out.ok e he⟩ : SMapII (w3.setCell ⟨bm, 1, none⟩ v3) bm (putN ordI k v xs)))
    have HG := Lib.hid (fun (v3 : Value) (w3 : World) (hg3 : (w2.alloc (.cells (eCII (k, v)).toArray 56)).grownBy w3 v2.ownBlock) => (by
      have h1 := grown_below (row := some bm) HB1.out
      have hb2a := hb2.trans (hba.mono hb2.size)
      have h2 := grown_trans h1 ⟨hb2a.os, hb2a.tape, hb2a.output, hb2a.size, fun k hk _ => hb2a.block k hk⟩
      have h3 := grown_sub h2 hg3 (fun k hk => by have := (ho2.lt k hk).1; omega)
      exact ⟨grown_put h3 1 v3, (HB.out.below hb2a HB.out.lt).grown hg3 (fun e => by have := (ho2.lt bm e.symm).1; have := HB.out.lt; omega)⟩ : w.grownBy (w3.setCell ⟨bm, 1, none⟩ v3) (some bm) ∧ Blk w3 bm 54 #[ordFII, .slice A xs.length c]))
    clear HC ho2 hb2 hba hown1 hbk
    subst hv2
    unfold InsPostII at HI
    generalize hrw : Value.ownBlock _ = rw2 at *
    clear hrw
    simp only [eCII, List.toList_toArray] at HI HFin HG
    go_wp2_with fail
    refine HI.out.mono ?_
    rintro e w3 ⟨g3, cap3, rfl, ho3, hg3, hr3⟩
    obtain ⟨hgf, hbx⟩ := HG.out (.slice (some ⟨g3, 0, none⟩) (xs.length + 1) cap3) w3 hg3
    have hF := HFin.out _ w3 ho3 hbx
    have hc1 : w3.cell? ⟨bm, 1, none⟩ = some (.slice A xs.length c) := hbx.cell 1
    have hf1 := hbx.frozen 1
    have HZ := Lib.hid (And.intro hF hgf); clear hF hgf hbx ho3 hg3 hr3
    go_wp2_with fail
    go_ret
    exact ⟨rfl, HZ.out.1, HZ.out.2⟩
  | true =>
    have hlt := inN_lt ordI_ord hin
    have hd := put_hit k v xs hin
    have hkk : ordI (xs[lbN ordI k xs]).1 k = 0 := by
      have := inN_at ordI_ord (k := k) hlt
      rw [hin] at this
      exact of_decide_eq_true this.symm
    have hkx : ∀ (j : Nat) (hj : j < xs.length), j = lbN ordI k xs → (xs[j]).1 = k := by
      intro j hj e
      subst e
      exact ordI_ord.zero _ _ hkk
    unfold FindPostII at HS
    rw [hin] at HS
    obtain ⟨i, hi⟩ : ∃ i, lbN ordI k xs = i := ⟨_, rfl⟩
    rw [hi] at HS hlt hd
    have hkx2 := hkx i hlt hi.symm
    have HD := Lib.hid (And.intro hd hkx2); clear hkx2 hd hin hi h hle hkk hkx
    go_enter Tryd.func19, Tryd.ntmps19
    go_wp2_with fail
    refine HS.out.mono ?_
    rintro e w1 ⟨rfl, hb1⟩
    obtain ⟨u, hb, ho⟩ := (HM.out.below hb1).row
    obtain ⟨A, c, rfl, _, _, _⟩ := SlV.of_own ho eCII_len (by decide)
    have hv1 : w1.cell? ⟨bm, 1, none⟩ = some (.slice A xs.length c) := hb.cell 1
    have HC := Lib.hid (slCloneII_any eCII eCII_len eCII_one w1 _ xs (SlV.of_own ho eCII_len (by decide)) (by omega))
    have HB := Lib.hid hb; clear hb ho
    have hb1S := hb1.size
    have HB1 := Lib.hid hb1; clear hb1
    go_wp2_with fail
    refine HC.out.mono ?_
    rintro e w2 ⟨v2, rfl, ho2, hb2⟩
    obtain ⟨g, cap, cur, rfl, hbg, hg, hnc, hcm, hcs, htk⟩ := own_form ho2 (by omega)
    have hgl := hg.lt
    have hst := own_setCells [.int .i64 v] (i * 2 + 1) w2 _ ho2 (by simp; omega)
    have hgr := grown_setCells (a := w2) (g := g) [.int .i64 v] (i * 2 + 1) w2 (grown_refl _ _)
    have hfl := flat_put eCII_len xs i hlt (k, v) 1 [.int .i64 v] (by simp) (by simp [eCII, HD.out.2])
    rw [hfl, ← HD.out.1] at hst
    have hl : (putN ordI k v xs).length = xs.length := by rw [HD.out.1, List.length_set]
    rw [← hl] at hst
    have hbx : Blk (w2.setCells g (i * 2 + 1) [.int .i64 v]) bm 54 #[ordFII, .slice A xs.length c] := (HB.out.below hb2 HB.out.lt).grown hgr (fun e => by have := HB.out.lt; cases e; omega)
    have hF : SMapII ((w2.setCells g (i * 2 + 1) [.int .i64 v]).setCell ⟨bm, 1, none⟩ (.slice (some ⟨g, 0, none⟩) (putN ordI k v xs).length cap)) bm (putN ordI k v xs) :=
      ⟨⟨_, hbx.put 1 _, own_wide (own_grown_typ hst (grown_put (grown_refl _ (some bm)) 1 _) hbx (by decide)) (Nat.zero_le _)⟩, put_up ordI_ord k v xs HM.out.up, fun e he => by
        rcases put_mem k v xs e he with rfl | he
        · exact hk
        · exact HM.out.ok e he⟩
    have hGf : w.grownBy ((w2.setCells g (i * 2 + 1) [.int .i64 v]).setCell ⟨bm, 1, none⟩ (.slice (some ⟨g, 0, none⟩) (putN ordI k v xs).length cap)) (some bm) := by
      have h1 := grown_below (row := some bm) HB1.out
      have h2 := grown_trans h1 ⟨hb2.os, hb2.tape, hb2.output, hb2.size, fun k hk _ => hb2.block k hk⟩
      exact grown_put (grown_sub h2 hgr (fun k hk => by cases hk; omega)) 1 _
    rw [hl] at hF hGf
    have hx0 : ∀ j, j < cap * 2 → (w2.cell? ⟨g, j, none⟩).isSome = true := fun j hj => by
      rw [hg.cell, Array.getElem?_eq_getElem (by omega)]; rfl
    have hil : i * 2 + 1 < cap * 2 := by omega
    obtain ⟨old, hold⟩ := Option.isSome_iff_exists.1 (hx0 (i * 2 + 1) hil)
    have hfz := hg.frozen (i * 2 + 1)
    have hbc1 : w2.cell? ⟨bm, 1, none⟩ = some (.slice A xs.length c) := (HB.out.below hb2 HB.out.lt).cell 1
    have hbf1 := (HB.out.below hb2 HB.out.lt).frozen 1
    have hne1 : bm ≠ g := fun e => by have := HB.out.lt; omega
    have hc3 : (w2.setCell ⟨g, i * 2 + 1, none⟩ (Value.int .i64 v)).cell? ⟨bm, 1, none⟩ = some (.slice A xs.length c) := (World.cell?_setCell_other w2 _ _ _ (by intro e; exact hne1 (congrArg Addr.block e).symm)).trans hbc1
    have hf3 : (w2.setCell ⟨g, i * 2 + 1, none⟩ (Value.int .i64 v)).frozen? ⟨bm, 1, none⟩ = false := by
      rw [World.frozen?_setCell]; exact hbf1
    have HZ := Lib.hid (And.intro hF hGf); clear hF hGf hbx hst hgr hfl hl hx0 hg htk ho2 hb2 hnc hcs hcm
    have hi2 : (i : Int) < xs.length := by omega
    go_wp2_with fail
    go_ret
    exact ⟨rfl, HZ.out.1, HZ.out.2⟩
end Go.Proofs.YtlogdionhgabdaaDoor
