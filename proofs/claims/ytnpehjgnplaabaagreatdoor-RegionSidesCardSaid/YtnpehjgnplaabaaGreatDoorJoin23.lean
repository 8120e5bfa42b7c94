/- Several texts, joined for the limit of sixty files; each one opens with its own comment. -/
import Derived.Test.YtnpehjgnplaabaaGreatDoorJoin22
import Derived.Test.YtnpehjgnplaabaaGreatDoorJoin12
import Derived.RangeFuncBound
import Derived.Test.YtnpehjgnplaabaaGreatDoorJoin18
import Derived.Test.YtnpehjgnplaabaaGreatDoorJoin20
/- Several texts, joined for the limit of sixty files; each one opens with its own comment. -/
/- sorted.Map[string,bool]: Get, Put. -/
set_option linter.unusedVariables false
set_option linter.unusedSimpArgs false
namespace Go.Proofs.YtnpehjgnplaabaaGreatDoor
open Go Go.RowKit
open Sw
set_option maxRecDepth 100000 in
set_option maxHeartbeats 4000000 in
theorem srtPutSB_any (w : World) (bm : Nat) (xs : List (ByteArray × Bool)) (k : ByteArray) (v : Bool) (h : SMapSB w bm xs) (hn : xs.length + 1 ≤ 1000000) (hk : okS k) :
    Calls Tryz.prog 133 #[.pointer (some ⟨bm, 0, none⟩), Value.string k, (Value.bool) v] w fun e w' => e = .returned (.bool (!inN ordS k xs)) ∧ SMapSB w' bm (putN ordS k v xs) ∧ w.grownBy w' (some bm) := by
  have HS := Lib.hid (srtFindSB_any w bm xs k h (by omega) hk)
  have HM := Lib.hid h
  have hle := lbN_le (c := ordS) k xs
  cases hin : inN ordS k xs with
  | false =>
    have hd := put_miss k v xs hin
    have hln := put_len (c := ordS) k v xs
    rw [hin, if_neg (by simp)] at hln
    unfold FindPostSB at HS
    rw [hin] at HS
    obtain ⟨i, hi⟩ : ∃ i, lbN ordS k xs = i := ⟨_, rfl⟩
    rw [hi] at HS hle hd
    have HD := Lib.hid (And.intro hd hln); clear hd hln hin hi h
    go_enter Tryz.func133, Tryz.ntmps133
    go_wp2_with fail
    refine HS.out.mono ?_
    rintro e w1 ⟨rfl, hb1⟩
    obtain ⟨u, hb, ho⟩ := (HM.out.below hb1).row
    obtain ⟨A, c, rfl, _, _, _⟩ := SlV.of_own ho eCSB_len (by decide)
    have hv1 : w1.cell? ⟨bm, 1, none⟩ = some (.slice A xs.length c) := hb.cell 1
    have HC := Lib.hid (slCloneSB_any eCSB eCSB_len eCSB_one w1 _ xs (SlV.of_own ho eCSB_len (by decide)) (by omega))
    have HB := Lib.hid hb; clear hb ho
    have hb1S := hb1.size
    have HB1 := Lib.hid hb1; clear hb1
    go_wp2_with fail
    refine HC.out.mono ?_
    rintro e w2 ⟨v2, rfl, ho2, hb2⟩
    obtain ⟨A2, c2, hv2, _, _, _⟩ := SlV_of_any ho2
    have hba : Below w2.heap.size w2 (w2.alloc (.cells (eCSB (k, v)).toArray 225)) := (Below.refl _ _).alloc (Nat.le_refl _) _
    have hlt2 := hb2.size
    have hown1 := own_kept ho2 hba
    have hbk := Blk.new w2 225 (eCSB (k, v)).toArray
    have HI := Lib.hid (slInsertSB_any (w2.alloc (.cells (eCSB (k, v)).toArray 225)) w1.heap.size v2 xs.length i w2.heap.size (xs.flatMap eCSB) 225 (eCSB (k, v)).toArray hown1 (flat1SB xs) hbk (own_ne ho2 _ (Nat.le_refl _)) rfl (by simpa using eCSB_one (k, v)) hle hn (by simp; omega))
    have HFin := Lib.hid (fun (v3 : Value) (w3 : World) (ho3 : w3.ownsRow w1.heap.size 225 2 v3 (xs.length + 1) ((xs.flatMap eCSB).take (i * 2) ++ (eCSB (k, v)) ++ (xs.flatMap eCSB).drop (i * 2))) (hbx : Blk w3 bm 221 #[ordFSB, .slice A xs.length c]) => (by
      have hd := HD.out.1
      have hxs : (xs.flatMap eCSB).take (i * 2) ++ (eCSB (k, v)) ++ (xs.flatMap eCSB).drop (i * 2) = (putN ordS k v xs).flatMap eCSB := by rw [hd, List.flatMap_append, List.flatMap_cons, flat_take eCSB_len, flat_drop eCSB_len, List.append_assoc]
      rw [hxs, ← HD.out.2] at ho3
      exact ⟨⟨v3, hbx.put 1 v3, own_wide (own_grown_typSB ho3 (grown_put (grown_refl w3 (some bm)) 1 v3) hbx (by decide)) (Nat.zero_le _)⟩, put_up ordS_ord k v xs HM.out.up, fun e he => by
        rcases put_mem k v xs e he with rfl | he
        · exact hk
        · exact HM.out.ok e he⟩ : SMapSB (w3.setCell ⟨bm, 1, none⟩ v3) bm (putN ordS k v xs)))
    have HG := Lib.hid (fun (v3 : Value) (w3 : World) (hg3 : (w2.alloc (.cells (eCSB (k, v)).toArray 225)).grownBy w3 v2.ownBlock) => (by
      have h1 := grown_below (row := some bm) HB1.out
      have hb2a := hb2.trans (hba.mono hb2.size)
      have h2 := grown_trans h1 ⟨hb2a.os, hb2a.tape, hb2a.output, hb2a.size, fun k hk _ => hb2a.block k hk⟩
      have h3 := grown_sub h2 hg3 (fun k hk => by have := (ho2.lt k hk).1; omega)
      exact ⟨grown_put h3 1 v3, (HB.out.below hb2a HB.out.lt).grown hg3 (fun e => by have := (ho2.lt bm e.symm).1; have := HB.out.lt; omega)⟩ : w.grownBy (w3.setCell ⟨bm, 1, none⟩ v3) (some bm) ∧ Blk w3 bm 221 #[ordFSB, .slice A xs.length c]))
    clear HC ho2 hb2 hba hown1 hbk
    subst hv2
    unfold InsPostSB at HI
    generalize hrw : Value.ownBlock _ = rw2 at *
    clear hrw
    simp only [eCSB, List.toList_toArray] at HI HFin HG
    go_wp2_with fail
    refine HI.out.mono ?_
    rintro e w3 ⟨g3, cap3, rfl, ho3, hg3, hr3⟩
    obtain ⟨hgf, hbx⟩ := HG.out (.slice (some ⟨g3, 0, none⟩) (xs.length + 1) cap3) w3 hg3
    have hF := HFin.out _ w3 ho3 hbx
    have hc1 : w3.cell? ⟨bm, 1, none⟩ = some (.slice A xs.length c) := hbx.cell 1
    have hf1 := hbx.frozen 1
    have HZ := Lib.hid (And.intro hF hgf); clear hF hgf hbx ho3 hg3 hr3
    go_wp2_with fail
    go_ret
    exact ⟨rfl, HZ.out.1, HZ.out.2⟩
  | true =>
    have hlt := inN_lt ordS_ord hin
    have hd := put_hit k v xs hin
    have hkk : ordS (xs[lbN ordS k xs]).1 k = 0 := by
      have := inN_at ordS_ord (k := k) hlt
      rw [hin] at this
      exact of_decide_eq_true this.symm
    have hkx : ∀ (j : Nat) (hj : j < xs.length), j = lbN ordS k xs → (xs[j]).1 = k := by
      intro j hj e
      subst e
      exact ordS_ord.zero _ _ hkk
    unfold FindPostSB at HS
    rw [hin] at HS
    obtain ⟨i, hi⟩ : ∃ i, lbN ordS k xs = i := ⟨_, rfl⟩
    rw [hi] at HS hlt hd
    have hkx2 := hkx i hlt hi.symm
    have HD := Lib.hid (And.intro hd hkx2); clear hkx2 hd hin hi h hle hkk hkx
    go_enter Tryz.func133, Tryz.ntmps133
    go_wp2_with fail
    refine HS.out.mono ?_
    rintro e w1 ⟨rfl, hb1⟩
    obtain ⟨u, hb, ho⟩ := (HM.out.below hb1).row
    obtain ⟨A, c, rfl, _, _, _⟩ := SlV.of_own ho eCSB_len (by decide)
    have hv1 : w1.cell? ⟨bm, 1, none⟩ = some (.slice A xs.length c) := hb.cell 1
    have HC := Lib.hid (slCloneSB_any eCSB eCSB_len eCSB_one w1 _ xs (SlV.of_own ho eCSB_len (by decide)) (by omega))
    have HB := Lib.hid hb; clear hb ho
    have hb1S := hb1.size
    have HB1 := Lib.hid hb1; clear hb1
    go_wp2_with fail
    refine HC.out.mono ?_
    rintro e w2 ⟨v2, rfl, ho2, hb2⟩
    obtain ⟨g, cap, cur, rfl, hbg, hg, hnc, hcm, hcs, htk⟩ := own_form ho2 (by omega)
    have hgl := hg.lt
    have hst := own_setCells [.bool v] (i * 2 + 1) w2 _ ho2 (by simp; omega)
    have hgr := grown_setCells (a := w2) (g := g) [.bool v] (i * 2 + 1) w2 (grown_refl _ _)
    have hfl := flat_put eCSB_len xs i hlt (k, v) 1 [.bool v] (by simp) (by simp [eCSB, HD.out.2])
    rw [hfl, ← HD.out.1] at hst
    have hl : (putN ordS k v xs).length = xs.length := by rw [HD.out.1, List.length_set]
    rw [← hl] at hst
    have hbx : Blk (w2.setCells g (i * 2 + 1) [.bool v]) bm 221 #[ordFSB, .slice A xs.length c] := (HB.out.below hb2 HB.out.lt).grown hgr (fun e => by have := HB.out.lt; cases e; omega)
    have hF : SMapSB ((w2.setCells g (i * 2 + 1) [.bool v]).setCell ⟨bm, 1, none⟩ (.slice (some ⟨g, 0, none⟩) (putN ordS k v xs).length cap)) bm (putN ordS k v xs) :=
      ⟨⟨_, hbx.put 1 _, own_wide (own_grown_typSB hst (grown_put (grown_refl _ (some bm)) 1 _) hbx (by decide)) (Nat.zero_le _)⟩, put_up ordS_ord k v xs HM.out.up, fun e he => by
        rcases put_mem k v xs e he with rfl | he
        · exact hk
        · exact HM.out.ok e he⟩
    have hGf : w.grownBy ((w2.setCells g (i * 2 + 1) [.bool v]).setCell ⟨bm, 1, none⟩ (.slice (some ⟨g, 0, none⟩) (putN ordS k v xs).length cap)) (some bm) := by
      have h1 := grown_below (row := some bm) HB1.out
      have h2 := grown_trans h1 ⟨hb2.os, hb2.tape, hb2.output, hb2.size, fun k hk _ => hb2.block k hk⟩
      exact grown_put (grown_sub h2 hgr (fun k hk => by cases hk; omega)) 1 _
    rw [hl] at hF hGf
    have hx0 : ∀ j, j < cap * 2 → (w2.cell? ⟨g, j, none⟩).isSome = true := fun j hj => by
      rw [hg.cell, Array.getElem?_eq_getElem (by omega)]; rfl
    have hil : i * 2 + 1 < cap * 2 := by omega
    obtain ⟨old, hold⟩ := Option.isSome_iff_exists.1 (hx0 (i * 2 + 1) hil)
    have hfz := hg.frozen (i * 2 + 1)
    have hbc1 : w2.cell? ⟨bm, 1, none⟩ = some (.slice A xs.length c) := (HB.out.below hb2 HB.out.lt).cell 1
    have hbf1 := (HB.out.below hb2 HB.out.lt).frozen 1
    have hne1 : bm ≠ g := fun e => by have := HB.out.lt; omega
    have hc3 : (w2.setCell ⟨g, i * 2 + 1, none⟩ (Value.bool v)).cell? ⟨bm, 1, none⟩ = some (.slice A xs.length c) := (World.cell?_setCell_other w2 _ _ _ (by intro e; exact hne1 (congrArg Addr.block e).symm)).trans hbc1
    have hf3 : (w2.setCell ⟨g, i * 2 + 1, none⟩ (Value.bool v)).frozen? ⟨bm, 1, none⟩ = false := by
      rw [World.frozen?_setCell]; exact hbf1
    have HZ := Lib.hid (And.intro hF hGf); clear hF hGf hbx hst hgr hfl hl hx0 hg htk ho2 hb2 hnc hcs hcm
    have hi2 : (i : Int) < xs.length := by omega
    go_wp2_with fail
    go_ret
    exact ⟨rfl, HZ.out.1, HZ.out.2⟩
end Go.Proofs.YtnpehjgnplaabaaGreatDoor
/- A range over a function inside an iterator: as RangeTell's law; only the loop's own record is turned, and the body and the end know where it lies. Over any program. -/
set_option linter.unusedVariables false
set_option linter.unusedSimpArgs false
namespace Sw
open Go Go.RowKit
variable {F : Fence} {n : Nat} {P : Program}
/-- what is said bears that the iterator turns its own blocks, or new things that are no cells -/
def AbN {β : Type} (Mine : Nat → Prop) (B : Nat) (J : β → World → Prop) : Prop :=
  ∀ s W W' row, J s W → W.grownBy W' row → (∀ r, row = some r → Mine r ∨ (B ≤ r ∧ ∃ o : Obj, W.heap[r]? = some o ∧ o.isCells = false)) → J s W'
theorem AbN.abM {β : Type} {Mine : Nat → Prop} {B : Nat} {J : β → World → Prop} (h : AbN Mine B J) : AbM Mine B J := fun s W W' row hs hg hr => h s W W' row hs hg (fun r e => by
  rcases hr r e with h1 | ⟨h1, o, ho, hw⟩
  · exact .inl h1
  · exact .inr ⟨h1, o, ho, Obj.not_cells_of_walk hw⟩)
/-- blocks of type te, and what is put off, lie as they lay -/
structure KeepTy (te : TypeId) (A B : World) : Prop where
  size : A.heap.size ≤ B.heap.size
  row : ∀ g cs, Blk A g te cs → Blk B g te cs
  put : ∀ (k : Nat) ds, A.heap[k]? = some (Obj.deferred ds) → B.heap[k]? = some (Obj.deferred ds)
theorem KeepTy.trans {te : TypeId} {A B C : World} (h : KeepTy te A B) (k : KeepTy te B C) : KeepTy te A C := ⟨Nat.le_trans h.size k.size, fun g cs hg => k.row g cs (h.row g cs hg), fun q ds hq => k.put q ds (h.put q ds hq)⟩
theorem KeepTy.below {te : TypeId} {A B : World} (h : Below A.heap.size A B) : KeepTy te A B := ⟨h.size, fun g cs hg => hg.below h hg.lt, fun k ds hk => (h.block k (Array.getElem?_eq_some_iff.1 hk).1).trans hk⟩
end Sw
/- The set of paths: a map of string to bool, and the box of it. -/
set_option linter.unusedVariables false
set_option linter.unusedSimpArgs false
namespace Go.Proofs.YtnpehjgnplaabaaGreatDoor
open Go Go.RowKit Go.Shelf
open Sw
theorem SMapSB.ownF {W W' : World} {row : Option Nat} {bm : Nat} {X : List SbE} (h : SMapSB W bm X) (hg : W.grownBy W' row) (hr : ∀ r, row = some r → ∃ o : Obj, W.heap[r]? = some o ∧ o.isCells = false) : SMapSB W' bm X := by
  obtain ⟨v, hb, ho⟩ := h.row
  exact ⟨⟨v, blk_ownF hb hg hr, own_ownF ho hg hr⟩, h.up, h.ok⟩
theorem smapSB_blk {w : World} {bm : Nat} {X : List SbE} (h : SMapSB w bm X) : ∃ cs, Blk w bm 221 cs := by
  obtain ⟨v, hb, _⟩ := h.row
  exact ⟨_, hb⟩
theorem TreeAt.grownSB {w w' : World} {bt bmt bm : Nat} {xs : List NE} {X : List SbE} (h : TreeAt w bt bmt xs) (hm : SMapSB w bm X) (hg : w.grownBy w' (some bm)) : TreeAt w' bt bmt xs := by
  obtain ⟨cs, hB⟩ := smapSB_blk hm
  obtain ⟨v, hb, ho⟩ := h.map.row
  exact ⟨h.box.grown hg (fun e => by have e' : bt = bm := by simpa using e
                                     subst e'; exact Blk.other h.box hB (by decide) rfl), h.map.grown hg (fun e => by subst e; exact Blk.other hb hB (by decide) rfl) hB (by decide)⟩
/-- the set of paths in its map, and the box of the map -/
def PthI (T bm : Nat) (X : List SbE) (W : World) : Prop := Blk W T 190 #[.pointer (some ⟨bm, 0, none⟩)] ∧ SMapSB W bm X
theorem PthI.below {T bm : Nat} {X : List SbE} {A B : World} (h : PthI T bm X A) (hb : Below A.heap.size A B) : PthI T bm X B := ⟨h.1.below hb h.1.lt, h.2.below hb⟩
theorem PthI.ownF {T bm : Nat} {X : List SbE} {A B : World} {row : Option Nat} (h : PthI T bm X A) (hg : A.grownBy B row) (hr : ∀ r, row = some r → ∃ o : Obj, A.heap[r]? = some o ∧ o.isCells = false) : PthI T bm X B := ⟨blk_ownF h.1 hg hr, h.2.ownF hg hr⟩
theorem PthI.put {T bm : Nat} {X Y : List SbE} {A B : World} (h : PthI T bm X A) (hm : SMapSB B bm Y) (hg : A.grownBy B (some bm)) : PthI T bm Y B := by
  obtain ⟨cs, hB⟩ := smapSB_blk h.2
  exact ⟨h.1.grown hg (fun e => by have e' : T = bm := by simpa using e
                                   subst e'; exact Blk.other h.1 hB (by decide) rfl), hm⟩
theorem ownFrom_put {β : Type} {B d : Nat} {o : Obj} (hd : d < B) : OwnFrom B (fun (_ : β) (W : World) => W.heap[d]? = some o) :=
  fun _ X Y row hs hg hr => (hg.block d (Array.getElem?_eq_some_iff.1 hs).1 (fun e => by have := (hr d e.symm).1; omega)).trans hs
end Go.Proofs.YtnpehjgnplaabaaGreatDoor
