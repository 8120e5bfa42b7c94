/- Several texts, joined for the limit of sixty files; each one opens with its own comment. -/
import Derived.Test.YtmpgmgjokliceaaGreatDoorJoin22
import Derived.Test.YtmpgmgjokliceaaGreatDoorJoin24
import Derived.Test.YtmpgmgjokliceaaGreatDoorJoin26
import Derived.Test.YtmpgmgjokliceaaGreatDoorJoin25
import Derived.Test.YtmpgmgjokliceaaGreatDoorJoin13
import Derived.Test.YtmpgmgjokliceaaGreatDoorJoin14
import Derived.RegionTactic
import Derived.BigRegion
/- All paths of two trees and of the tops, and which are tops: paths of plan's maker. -/
set_option linter.unusedVariables false
set_option linter.unusedSimpArgs false
namespace Go.Proofs.YtmpgmgjokliceaaGreatDoor
open Go Go.RowKit Go.Shelf
open Sw
attribute [local go_sem] Oper.semAt_some
def fal (l : List NE) : List SbE := (l.map Prod.fst).map fun p => (p, false)
theorem fal_one (l : List NE) (x : NE) : fal (l ++ [x]) = fal l ++ [(x.1, false)] := by unfold fal; simp
theorem fal_len (l : List NE) : (fal l).length = l.length := by unfold fal; simp
def tru (l : List ByteArray) : List SbE := l.map fun p => (p, true)
theorem tru_len (l : List ByteArray) : (tru l).length = l.length := by unfold tru; simp
theorem tru_take (l : List ByteArray) (i : Nat) (h : i < l.length) : tru (l.take (i + 1)) = tru (l.take i) ++ [(l[i], true)] := by unfold tru; rw [List.take_succ_eq_append_getElem h, List.map_append]; rfl
/-- paths of a tree put into the map, and two trees' row -/
def PqI (T bm : Nat) (X0 : List SbE) (gs : Nat) (ts : TypeId) (p1 p2 : Value) (gb : Nat) (v : Value) (xs : List NE) (pre : List NE) (W : World) : Prop :=
  (PthI T bm (setE X0 (fal pre)) W ∧ gb < W.heap.size) ∧ Blk W gb 188 #[v] ∧ Lies W 197 5 eCSN v xs ∧ Blk W gs ts #[p1, p2]
theorem PqI.own (T bm : Nat) (X0 : List SbE) (gs : Nat) (ts : TypeId) (p1 p2 : Value) (gb : Nat) (v : Value) (xs : List NE) : Own (PqI T bm X0 gs ts p1 p2 gb v xs) := fun _ A C row hs hg hr => ⟨⟨hs.1.1.ownF hg hr, Nat.lt_of_lt_of_le hs.1.2 hg.size⟩, blk_ownF hs.2.1 hg hr, hs.2.2.1.ownF hg hr, blk_ownF hs.2.2.2 hg hr⟩
set_option maxRecDepth 100000 in
set_option maxHeartbeats 8000000 in
theorem paths_any (w : World) (base gm bt bm1 bt2 bm2 : Nat) (tv : Value) (tops : List ByteArray) (xs ys : List NE) (ls : List (StepP × Value)) (h : MkrAt base gm bt bm1 bt2 bm2 tv tops xs ys ls w) (hxl : xs.length ≤ 1000) (hyl : ys.length ≤ 1000) (htl : tops.length ≤ 1000) (hxp : ∀ e ∈ xs, e.1.size ≤ 90000) (hyp : ∀ e ∈ ys, e.1.size ≤ 90000) (htp : ∀ p ∈ tops, p.size ≤ 90000) :
    Calls Tryz.prog 36 #[.pointer (some ⟨gm, 0, none⟩)] w fun e w' => ∃ sm, e = .returned (.pointer (some ⟨sm, 0, none⟩)) ∧ w.heap.size ≤ sm ∧ SMapSB w' sm (flagsN xs ys tops) ∧ Below w.heap.size w w' := by
  refine callsIn_wide.1 (?_ : CallsIn Fence.wide 9 _ _ _ _ _)
  refine callsIn_of_wp_marks Tryz.func36 rfl trivial ?_ rfl
  simp only [Tryz.ntmps36, List.size_toArray, List.length_cons, List.length_nil, Nat.reduceAdd, Nat.reduceSub, Array.replicate_succ, Array.replicate_zero, List.push_toArray, List.append_toArray, List.nil_append, List.cons_append]
  have HN := Lib.hid (srtNewSB_any w)
  have HX := Lib.hid (And.intro hxp (And.intro hyp htp))
  have HT := Lib.hid (And.intro h.t h.t2)
  have HTO := Lib.hid h.tops
  obtain ⟨o, hBg, -⟩ := h.box
  obtain ⟨n, hn⟩ : ∃ n, tops.length = n := ⟨_, rfl⟩
  obtain ⟨At, ct, etv, -⟩ := h.tops
  rw [hn] at etv htl
  subst etv
  have HNN := Lib.hid hn
  have HBG := Lib.hid hBg
  clear h hxp hyp htp hBg hn
  gi_wp2
  refine ⟨trivial, (callsIn_wide.2 HN.out).mono ?_⟩
  rintro e w1 ⟨bm, rfl, hm, hbm, hb1⟩
  have hba : Below w1.heap.size w1 (w1.alloc (.cells #[.pointer (some ⟨bm, 0, none⟩)] 77)) := (Below.refl _ w1).alloc (Nat.le_refl _) _
  have hb2 := hb1.trans (hba.mono hb1.size)
  have hP1 : PthI w1.heap.size bm [] _ := ⟨Blk.new w1 _ _, hm.below hba⟩
  obtain ⟨W1, hW1⟩ : ∃ W1, w1.alloc (.cells #[.pointer (some ⟨bm, 0, none⟩)] 77) = W1 := ⟨_, rfl⟩
  obtain ⟨T, hTe⟩ : ∃ T, w1.heap.size = T := ⟨_, rfl⟩
  rw [hW1] at hb2 hP1
  rw [hTe] at hP1
  have H1 := Lib.hid (And.intro hP1 (And.intro hb2 hbm))
  have HBL := Lib.hid (HBG.out.below hb2 HBG.out.lt)
  clear hba hb2 hb1 hbm hm HN hP1
  gi_wp2
  clear hW1 hTe
  have k0 : ∀ m : Held (Aft W1), (HeldW m).cell? ⟨gm, 0, none⟩ = some (.pointer (some ⟨bt, 0, none⟩)) := fun m => (Aft.cell m HBL.out.lt).trans (HBL.out.cell 0)
  have k1 : ∀ m : Held (Aft W1), (HeldW m).cell? ⟨gm, 1, none⟩ = some (.pointer (some ⟨bt2, 0, none⟩)) := fun m => (Aft.cell m HBL.out.lt).trans (HBL.out.cell 1)
  have HC := Lib.hid (Aft.start W1)
  refine wpInW_region_mixT (Aft W1) (.first 0 (.first 1 (.first 2 (.first 3 (.first 4 (.first 5 (.first 6 (.first 7 (.first 10 (.forced 8 (.forced 9 .nil))))))))))) (by kernel_rfl) (by kernel_rfl) ?_
  simp only [pickT, List.getElem?_toArray, List.getElem?_cons_succ, List.getElem?_cons_zero]
  repeat (apply mixT_first; apply Exists.intro; refine ⟨fun m => ?_, HC.out, ?_⟩; · (go_big_quiet_step (fail); exact wpQuiet_nil rfl))
  clear k0 k1
  refine mixT_forced HC.out ?_
  obtain ⟨gs, hgs⟩ : ∃ n, W1.drew.heap.size = n := ⟨_, rfl⟩
  have hb3 : Below W1.heap.size W1 (W1.drew.alloc (.cells #[.pointer (some ⟨bt, 0, none⟩), .pointer (some ⟨bt2, 0, none⟩)] 27)) := HC.out.alloc (Aft.start W1).size _
  have hS : Blk (W1.drew.alloc (.cells #[.pointer (some ⟨bt, 0, none⟩), .pointer (some ⟨bt2, 0, none⟩)] 27)) gs 27 #[.pointer (some ⟨bt, 0, none⟩), .pointer (some ⟨bt2, 0, none⟩)] := by rw [← hgs]; exact Blk.new _ _ _
  obtain ⟨W2, hW2⟩ : ∃ W, W1.drew.alloc (.cells #[.pointer (some ⟨bt, 0, none⟩), .pointer (some ⟨bt2, 0, none⟩)] 27) = W := ⟨_, rfl⟩
  rw [hW2] at hb3 hS
  have HC2 := Lib.hid (show Aft W1 W2 from hb3)
  have HS := Lib.hid hS
  have HNE0 := Lib.hid (show gs ≠ bm from fun e => by have := H1.out.1.2.lt; have h2 := (Aft.start W1 : Below W1.heap.size W1 W1.drew).size; omega)
  clear hS hb3
  go_wp2_with fail
  show mixT _ _ _ _ _ _ _
  refine mixT_forced HC2.out ?_
  go_wp2_with fail
  show mixT _ _ _ _ _ _ _
  refine mixT_nil HC2.out ?_
  clear hW2 hgs
  have HM := Lib.hid (And.intro (And.intro H1.out.2.2 HNE0.out) HT.out)
  have HR := Lib.hid (And.intro (H1.out.1.below HC2.out) (And.intro (H1.out.2.1.trans ((HC2.out : Below W1.heap.size W1 W2).mono H1.out.2.1.size)) (And.intro HS.out True.intro)))
  have q1 := HS.out.cell 0
  simp only [List.getElem?_toArray, List.getElem?_cons_succ, List.getElem?_cons_zero] at q1
  clear H1 HBL HC HC2 HS HNE0 HT
  gi_wp2
  refine wpIn_loop_rounds 3 ?_
  rw [roundsIn_succ]
  gi_wp2
  generalize W2 = w4 at *
  refine ⟨trivial, (callsIn_wide.2 (treeAll_any w4 bt bm1 xs (HM.out.2.1.below HR.out.2.1))).mono ?_⟩
  rintro e w6 ⟨gb, v, rfl, hgb, hL, hge, hvb, hb6⟩
  have hP6 := HR.out.1.below hb6
  have hB6 := HR.out.2.1.trans (hb6.mono HR.out.2.1.size)
  have hgl := hgb.lt
  obtain ⟨cs0, hcs0⟩ := smapSB_blk hP6.2
  have hbmgb : bm ≠ gb := fun e => by subst e; exact Blk.other hcs0 hgb (by decide) rfl
  have hbmv : 0 < xs.length → ∀ g, v.ownBlock = some g → bm ≠ g := fun h0 g hg e => by
    subst e
    obtain ⟨A, c, rfl, _, _, h3⟩ := hL
    obtain ⟨g', off, cur, rfl, hb, _⟩ := h3 h0
    cases hg
    exact Blk.other hcs0 hb (by decide) rfl
  have HNE := Lib.hid (And.intro hbmgb hbmv)
  have hz6 := hB6.size
  have hgs6 := HR.out.2.2.1.below hb6 HR.out.2.2.1.lt
  clear hbmgb hbmv hcs0 hb6 hge q1
  gi_wp2
  refine wpIn_rangeFunc_tell (Mine := fun _ => False) (fun _ h => h.elim) rfl (by omega) (gf := 205) (lb := #[.pointer (some ⟨gb, 0, none⟩)]) rfl trivial (enters_of Tryz.func205 (by kernel_rfl) rfl)
    (toldSN_tells 8 (by omega) gb v xs w6 hgb hL (by omega)) KeepIt.trans (keepIt_b hgl hvb) (Below.refl _ _) (fun _ => rfl)
    (fun pre W => PqI T bm [] gs 27 (.pointer (some ⟨bt, 0, none⟩)) (.pointer (some ⟨bt2, 0, none⟩)) gb v xs pre W ∧ Below w.heap.size w W)
    (fun c pre W => False)
    (OwnM.of_none (OwnFrom.and (Own.from (PqI.own T bm [] gs 27 (.pointer (some ⟨bt, 0, none⟩)) (.pointer (some ⟨bt2, 0, none⟩)) gb v xs) _) (ownFrom_below (Nat.le_refl _) (by omega))))
    (fun c => OwnM.of_none (fun _ _ _ _ hs _ _ => hs.elim))
    ⟨⟨⟨hP6, hgl⟩, hgb, hL, hgs6⟩, hB6⟩
    ?a1 ?assign1 ?body1 ?done1 ?stop1
  case assign1 =>
    rintro l x W K hK
    gi_wp2
    exact hK
  case body1 =>
    rintro l pre x W ⟨⟨⟨hP, hglW⟩, hgW, hLW, hgsW⟩, hB⟩ hTl
    have hx0 : 0 < xs.length := by obtain ⟨r, hr⟩ := hTl; rw [← hr]; simp; omega
    have hpl : pre.length + 1 ≤ 1000 := by obtain ⟨r, hr⟩ := hTl; have := congrArg List.length hr; simp at this; omega
    have hxm : x ∈ xs := by obtain ⟨r, hr⟩ := hTl; rw [← hr]; simp
    have hq := HX.out.1 x hxm
    have q5 := hP.1.cell 0
    simp only [List.getElem?_toArray, List.getElem?_cons_succ, List.getElem?_cons_zero] at q5
    have hsl := setE_len (fal pre) []
    rw [fal_len] at hsl
    simp only [List.length_nil, Nat.zero_add] at hsl
    have HPU := Lib.hid (srtPutSB_any W bm _ x.1 false hP.2 (by omega) hq)
    have HR2 := Lib.hid (And.intro hP (And.intro hgW (And.intro hLW (And.intro hB hgsW))))
    clear hP hgW hLW hB hTl hsl hgsW
    obtain ⟨q, nd⟩ := x
    simp only at HPU hq ⊢
    gi_wp2
    refine ((callsIn_wide.2 HPU.out).inRound l).mono ?_
    rintro e w7 ⟨rfl, hm7, hg7⟩
    have hBm : Blk W bm 154 (smapSB_blk HR2.out.1.2).choose := (smapSB_blk HR2.out.1.2).choose_spec
    have hko := keeps_grownF hg7 hBm
    have hgK : KeepIt gb v W w7 := ⟨hg7.size, hg7.block gb hglW (fun e => HNE.out.1 (by simpa using e.symm)), fun g hg => hg7.block g (by
      obtain ⟨A, c, rfl, _, _, h3⟩ := HR2.out.2.2.1
      obtain ⟨g', off, cur, rfl, hbq, _⟩ := h3 hx0
      cases hg
      exact hbq.lt) (fun e => HNE.out.2 hx0 g hg (by simpa using e.symm))⟩
    have HF := Lib.hid (And.intro hko (And.intro hgK (And.intro (HR2.out.1.put hm7 hg7) (And.intro (HR2.out.2.2.2.1.grown hg7 (by have := HR2.out.2.2.2.1.size; omega) (fun k hk => by cases hk; exact HM.out.1.1)) (HR2.out.2.2.2.2.grown hg7 (fun e => HM.out.1.2 (by simpa using e)))))))
    clear hm7 hg7 hko hgK hBm q5
    gi_wp2
    refine ⟨HF.out.1, HF.out.2.1, ⟨⟨?_, Nat.lt_of_lt_of_le hglW HF.out.1.size⟩, ?_, ?_, HF.out.2.2.2.2⟩, HF.out.2.2.2.1⟩
    · rw [fal_one, setE_one]; exact HF.out.2.2.1
    · have := HF.out.2.1.box
      have h2 := HR2.out.2.1
      unfold Blk at h2 ⊢
      rw [this, h2]
    · exact HR2.out.2.2.1.kept (fun g cur h _ => HF.out.2.1.row g h)
  case done1 =>
    rintro D zs1 W hD hzs ⟨⟨⟨hP, hglW⟩, hgW, hLW, hgsW⟩, hB⟩ hK
    have hz : zs1 = xs := hzs
    subst hz
    have hD0 : w.heap.size ≤ D := by omega
    have q1 := hgsW.cell 1
    simp at q1
    have HR := Lib.hid (And.intro hP (And.intro hB (And.intro hgsW hK)))
    clear hP hB hK hgW hLW hglW hgsW hgb hL hvb hP6 hgs6 hB6 hgl hz6 hzs HNE hD
    gi_wp2
    rw [roundsIn_succ]
    gi_wp2
    generalize W = w4 at *
    refine ⟨trivial, (callsIn_wide.2 (treeAll_any w4 bt2 bm2 ys (HM.out.2.2.below HR.out.2.1))).mono ?_⟩
    rintro e w6 ⟨gb, v, rfl, hgb, hL, hge, hvb, hb6⟩
    have hP6 := HR.out.1.below hb6
    have hB6 := HR.out.2.1.trans (hb6.mono HR.out.2.1.size)
    have hgl := hgb.lt
    obtain ⟨cs0, hcs0⟩ := smapSB_blk hP6.2
    have hbmgb : bm ≠ gb := fun e => by subst e; exact Blk.other hcs0 hgb (by decide) rfl
    have hbmv : 0 < ys.length → ∀ g, v.ownBlock = some g → bm ≠ g := fun h0 g hg e => by
      subst e
      obtain ⟨A, c, rfl, _, _, h3⟩ := hL
      obtain ⟨g', off, cur, rfl, hb, _⟩ := h3 h0
      cases hg
      exact Blk.other hcs0 hb (by decide) rfl
    have HNE := Lib.hid (And.intro hbmgb hbmv)
    have hz6 := hB6.size
    have hgs6 := HR.out.2.2.1.below hb6 HR.out.2.2.1.lt
    have hK6 : w6.heap[D]? = some (Obj.deferred (some [])) := (hb6.block D (Array.getElem?_eq_some_iff.1 HR.out.2.2.2).1).trans HR.out.2.2.2
    have hD6 : D < w6.heap.size := (Array.getElem?_eq_some_iff.1 hK6).1
    clear hbmgb hbmv hcs0 hb6 hge q1
    gi_wp2
    refine wpIn_rangeFunc_tell (Mine := fun _ => False) (fun _ h => h.elim) rfl (by omega) (gf := 205) (lb := #[.pointer (some ⟨gb, 0, none⟩)]) rfl trivial (enters_of Tryz.func205 (by kernel_rfl) rfl)
      (toldSN_tells 8 (by omega) gb v ys w6 hgb hL (by omega)) KeepIt.trans (keepIt_b hgl hvb) (Below.refl _ _) (fun _ => rfl)
      (fun pre W => PqI T bm (setE [] (fal zs1)) gs 27 (.pointer (some ⟨bt, 0, none⟩)) (.pointer (some ⟨bt2, 0, none⟩)) gb v ys pre W ∧ Below w.heap.size w W ∧ W.heap[D]? = some (Obj.deferred (some [])))
      (fun c pre W => False)
      (OwnM.of_none (OwnFrom.and (Own.from (PqI.own T bm (setE [] (fal zs1)) gs 27 (.pointer (some ⟨bt, 0, none⟩)) (.pointer (some ⟨bt2, 0, none⟩)) gb v ys) _) (OwnFrom.and (ownFrom_below (Nat.le_refl _) (by omega)) (ownFrom_put hD6))))
      (fun c => OwnM.of_none (fun _ _ _ _ hs _ _ => hs.elim))
      ⟨⟨⟨hP6, hgl⟩, hgb, hL, hgs6⟩, hB6, hK6⟩
      ?a2 ?assign2 ?body2 ?done2 ?stop2
    case assign2 =>
      rintro l x W K hK
      gi_wp2
      exact hK
    case body2 =>
      rintro l pre x W ⟨⟨⟨hP, hglW⟩, hgW, hLW, hgsW⟩, hB, hKD⟩ hTl
      have hx0 : 0 < ys.length := by obtain ⟨r, hr⟩ := hTl; rw [← hr]; simp; omega
      have hpl : pre.length + 1 ≤ 1000 := by obtain ⟨r, hr⟩ := hTl; have := congrArg List.length hr; simp at this; omega
      have hxm : x ∈ ys := by obtain ⟨r, hr⟩ := hTl; rw [← hr]; simp
      have hq := HX.out.2.1 x hxm
      have q5 := hP.1.cell 0
      simp only [List.getElem?_toArray, List.getElem?_cons_succ, List.getElem?_cons_zero] at q5
      have hsl := setE_len (fal pre) (setE [] (fal zs1))
      rw [fal_len] at hsl
      have hsl0 := setE_len (fal zs1) []
      rw [fal_len] at hsl0
      simp only [List.length_nil, Nat.zero_add] at hsl0
      have HPU := Lib.hid (srtPutSB_any W bm _ x.1 false hP.2 (by omega) hq)
      have HR2 := Lib.hid (And.intro hP (And.intro hgW (And.intro hLW (And.intro hB hgsW))))
      have HR4 := Lib.hid hKD
      clear hKD
      clear hP hgW hLW hB hTl hsl hgsW
      obtain ⟨q, nd⟩ := x
      simp only at HPU hq ⊢
      gi_wp2
      refine ((callsIn_wide.2 HPU.out).inRound l).mono ?_
      rintro e w7 ⟨rfl, hm7, hg7⟩
      have hBm : Blk W bm 154 (smapSB_blk HR2.out.1.2).choose := (smapSB_blk HR2.out.1.2).choose_spec
      have hko := keeps_grownF hg7 hBm
      have hgK : KeepIt gb v W w7 := ⟨hg7.size, hg7.block gb hglW (fun e => HNE.out.1 (by simpa using e.symm)), fun g hg => hg7.block g (by
        obtain ⟨A, c, rfl, _, _, h3⟩ := HR2.out.2.2.1
        obtain ⟨g', off, cur, rfl, hbq, _⟩ := h3 hx0
        cases hg
        exact hbq.lt) (fun e => HNE.out.2 hx0 g hg (by simpa using e.symm))⟩
      have HF := Lib.hid (And.intro hko (And.intro hgK (And.intro (HR2.out.1.put hm7 hg7) (And.intro (HR2.out.2.2.2.1.grown hg7 (by have := HR2.out.2.2.2.1.size; omega) (fun k hk => by cases hk; exact HM.out.1.1)) (HR2.out.2.2.2.2.grown hg7 (fun e => HM.out.1.2 (by simpa using e)))))))
      have HF2 := Lib.hid (show w7.heap[D]? = some (Obj.deferred (some [])) from hko.same D _ HR4.out rfl)
      clear hm7 hg7 hko hgK hBm q5
      gi_wp2
      refine ⟨HF.out.1, HF.out.2.1, ⟨⟨?_, Nat.lt_of_lt_of_le hglW HF.out.1.size⟩, ?_, ?_, HF.out.2.2.2.2⟩, HF.out.2.2.2.1, HF2.out⟩
      · rw [fal_one, setE_one]; exact HF.out.2.2.1
      · have := HF.out.2.1.box
        have h2 := HR2.out.2.1
        unfold Blk at h2 ⊢
        rw [this, h2]
      · exact HR2.out.2.2.1.kept (fun g cur h _ => HF.out.2.1.row g h)
    case done2 =>
      rintro D2 zs2 W hD hzs ⟨⟨⟨hP, hglW⟩, hgW, hLW, hgsW⟩, hB, hKD⟩ hK
      have hz : zs2 = ys := hzs
      subst hz
      have hDl : D < W.heap.size := (Array.getElem?_eq_some_iff.1 hKD).1
      have hDl2 : D2 < W.heap.size := (Array.getElem?_eq_some_iff.1 hK).1
      have HDD := Lib.hid (show D ≠ D2 ∧ w.heap.size ≤ D ∧ w.heap.size ≤ D2 by refine ⟨?_, ?_, ?_⟩ <;> omega)
      have HR := Lib.hid (And.intro hP (And.intro hB (And.intro hKD hK)))
      clear hP hB hK hgW hLW hglW hgsW hKD hgb hL hvb hP6 hgs6 hB6 hgl hz6 hzs HNE hD hDl hDl2 hK6 hD6
      have z2 := (HBG.out.below HR.out.2.1 HBG.out.lt).cell 2
      simp only [List.getElem?_toArray, List.getElem?_cons_succ, List.getElem?_cons_zero] at z2
      gi_wp2
      rw [roundsIn_succ]
      gi_wp2
      clear z2
      gi_loopw [37] (fun iv wr => ∃ i : Nat, iv = .int .i64 i ∧ i ≤ n ∧ PthI T bm (setE (setE (setE [] (fal zs1)) (fal zs2)) (tru (tops.take i))) wr ∧ Below w.heap.size w wr ∧ wr.heap[D]? = some (Obj.deferred (some [])) ∧ wr.heap[D2]? = some (Obj.deferred (some []))) (fun iv _ => n - (intOf iv).toNat)
      case atStart => exact ⟨0, rfl, Nat.zero_le _, HR.out.1, HR.out.2.1, HR.out.2.2.1, HR.out.2.2.2⟩
      case round =>
        obtain ⟨i, rfl, hi, hP, hB, hKD, hKD2⟩ := hrel
        by_cases hlt : i < n
        · have hiL : i < tops.length := by have := HNN.out; omega
          obtain ⟨A', c', hA, _, _, hso⟩ := (HTO.out.below hB).slv sE_lenP
          rw [HNN.out] at hA
          obtain ⟨rfl, rfl⟩ : At = A' ∧ ct = c' := by injection hA with e1 e2 e3; exact ⟨e1, e3⟩
          clear hA
          obtain ⟨b, off, rfl, hbb, hcs⟩ := hso (by omega)
          have c0 := hcs i hiL 0 (by decide)
          simp only [sE, List.getElem?_cons_succ, List.getElem?_cons_zero, Nat.add_zero, Nat.mul_one] at c0
          clear hcs hso
          have hi1 : (i : Int) < n := by omega
          have hq := HX.out.2.2 _ (List.getElem_mem hiL)
          have q5 := hP.1.cell 0
          simp only [List.getElem?_toArray, List.getElem?_cons_succ, List.getElem?_cons_zero] at q5
          have hsl1 := setE_len (fal zs1) []
          have hsl2 := setE_len (fal zs2) (setE [] (fal zs1))
          have hsl3 := setE_len (tru (tops.take i)) (setE (setE [] (fal zs1)) (fal zs2))
          rw [fal_len] at hsl1 hsl2
          rw [tru_len, List.length_take] at hsl3
          simp only [List.length_nil, Nat.zero_add] at hsl1
          have hst : setE (setE (setE [] (fal zs1)) (fal zs2)) (tru (tops.take (i + 1))) = putN ordS tops[i] true (setE (setE (setE [] (fal zs1)) (fal zs2)) (tru (tops.take i))) := by
            rw [tru_take tops i hiL, setE_one]
          have HPU := Lib.hid (srtPutSB_any wr bm _ tops[i] true hP.2 (by omega) hq)
          have HR2 := Lib.hid (And.intro hP (And.intro hB (And.intro hKD (And.intro hKD2 hst))))
          clear hP hB hKD hKD2 hsl1 hsl2 hsl3 hst
          generalize tops[i] = q at *
          gi_wp2
          refine ⟨trivial, (callsIn_wide.2 HPU.out).mono ?_⟩
          rintro e w5 ⟨rfl, hm5, hg5⟩
          have hBm : Blk wr bm 154 (smapSB_blk HR2.out.1.2).choose := (smapSB_blk HR2.out.1.2).choose_spec
          have hko := keeps_grownF hg5 hBm
          have H5 := Lib.hid (And.intro (HR2.out.1.put hm5 hg5) (And.intro (HR2.out.2.1.grown hg5 HR2.out.2.1.size (fun k hk => by cases hk; exact HM.out.1.1)) (And.intro (hko.same D _ HR2.out.2.2.1 rfl) (hko.same D2 _ HR2.out.2.2.2.1 rfl))))
          clear hm5 hg5 q5 HPU hko hBm
          gi_wp2
          go_roundw
          case rel => exact ⟨i + 1, by go_num, by omega, by rw [HR2.out.2.2.2.2]; exact H5.out.1, H5.out.2.1, H5.out.2.2.1, H5.out.2.2.2⟩
          case measure => simp [intOf]; omega
        · obtain rfl : i = n := by omega
          have hf : tops.take i = tops := List.take_of_length_le (by have := HNN.out; omega)
          rw [hf] at hP
          clear hf
          have q5 := hP.1.cell 0
          simp only [List.getElem?_toArray, List.getElem?_cons_succ, List.getElem?_cons_zero] at q5
          have HF := Lib.hid (And.intro hP (And.intro hB (And.intro hKD hKD2)))
          clear hP hB hKD hKD2
          gi_wp2
          have hK10 : (wr.putObj D2 (.deferred none)).heap[D]? = some (Obj.deferred (some [])) := (World.putObj_heap_other HDD.out.1).trans HF.out.2.2.1
          refine ⟨by simp, .inl ⟨_, _, rfl, run_takeDeferred HF.out.2.2.2, ?_⟩⟩
          refine ⟨by simp, .inl ⟨_, _, rfl, run_takeDeferred hK10, ?_⟩⟩
          refine ⟨_, results_tmp rfl _ _ _, ⟨bm, rfl, HM.out.1.1, ?_, ?_⟩⟩
          · have h1 := HF.out.1.2.ownF (grownBy_putObj' wr D2 (.deferred none)) (fun r e => show ∃ o : Obj, wr.heap[r]? = some o ∧ o.isCells = false from (by cases (e : some D2 = some r); exact ⟨_, HF.out.2.2.2, rfl⟩))
            exact h1.ownF (grownBy_putObj' (wr.putObj D2 (.deferred none)) D (.deferred none)) (fun r e => show ∃ o : Obj, (wr.putObj D2 (.deferred none)).heap[r]? = some o ∧ o.isCells = false from (by cases (e : some D = some r); exact ⟨_, hK10, rfl⟩))
          · exact (HF.out.2.1.trans (belowK_b (w := w) (Nat.le_refl _) wr D2 _ (.deferred none) HDD.out.2.2 HF.out.2.2.2 rfl rfl)).trans (belowK_b (w := w) (Nat.le_refl _) _ D _ (.deferred none) HDD.out.2.1 hK10 rfl rfl)
    case stop2 =>
      rintro D' c pre W hD hSp h
      exact h.elim
  case stop1 =>
    rintro D' c pre W hD hSp h
    exact h.elim
end Go.Proofs.YtmpgmgjokliceaaGreatDoor
/- sorted's iterators over string, bool: told, All, From, Back. -/
set_option linter.unusedVariables false
set_option linter.unusedSimpArgs false
namespace Go.Proofs.YtmpgmgjokliceaaGreatDoor
open Go Go.RowKit Go.Shelf
open Sw
attribute [local go_sem] Oper.semAt_some
set_option maxRecDepth 100000 in
set_option maxHeartbeats 4000000 in
theorem toldSB_tells (n : Nat) (hn : 1 ≤ n) (gb : Nat) (v : Value) (xs : List (ByteArray × Bool)) (w : World) (hgb : Blk w gb 149 #[v]) (hv : Lies w 152 2 eCSB v xs) (hl : xs.length ≤ 1000000) :
    SeqTells (fun _ => False) Fence.wide n Tryz.prog 151 #[.pointer (some ⟨gb, 0, none⟩)] (fun x : ByteArray × Bool => #[Value.string x.1, (Value.bool) x.2]) (KeepIt gb v) (fun ys => ys = xs) (fun pre => pre <+: xs) (fun pre => pre <+: xs) w := fun l J Jx W hW hJ hJx hY hJ0 => by
  have hB := hgb.below hW hgb.lt
  have hL := hv.below hW
  have c0 := hB.cell 0
  simp at c0
  have hL2 := hL
  obtain ⟨A, c, rfl, hc1, hc2, _⟩ := hL2
  have HB := Lib.hid (And.intro hgb hB); clear hgb hB
  have HL := Lib.hid hL; clear hL
  have HV := Lib.hid hv; clear hv
  have HJ := Lib.hid hJ; clear hJ
  have HY := Lib.hid hY; clear hY
  clear hJx
  refine callsIn_of_wp Tryz.func151 rfl trivial ?_ rfl
  simp only [Tryz.ntmps151, List.size_toArray, List.length_cons, List.length_nil, Nat.reduceAdd, Nat.reduceSub, Array.replicate_succ, Array.replicate_zero, List.push_toArray, List.append_toArray, List.nil_append, List.cons_append]
  gi_wp2
  gi_loopw [7] (fun iv wr => ∃ k : Nat, iv = .int .i64 k ∧ k ≤ xs.length ∧ J (xs.take k) wr ∧ KeepIt gb (.slice A xs.length c) W wr) (fun iv _ => xs.length - (intOf iv).toNat)
  case atStart => exact ⟨0, rfl, Nat.zero_le _, hJ0, ⟨Nat.le_refl _, rfl, fun _ _ => rfl⟩⟩
  case round =>
    obtain ⟨k, rfl, hk, hJs, hK⟩ := hrel
    by_cases hlt : k < xs.length
    · have hLr := HL.out.kept (fun g _ hg _ => hK.row g hg)
      obtain ⟨A', c', hA, _, _, hsl⟩ := hLr.slv eCSB_len
      obtain ⟨rfl, rfl⟩ : A = A' ∧ c = c' := by injection hA with e1 e2 e3; exact ⟨e1, e3⟩
      obtain ⟨b, off, rfl, hbb, hcs⟩ := hsl (by omega)
      have hr := (hsl.range eCSB_len k hlt)
      have hJ1 := HJ.out _ wr (wr.alloc (.cells (eCSB xs[k]).toArray 152)) none hJs (grown_alloc (grown_refl wr none) _) (fun r h => by cases h)
      have hK1 : KeepIt gb (.slice (some ⟨b, off, none⟩) xs.length c) W (wr.alloc (.cells (eCSB xs[k]).toArray 152)) := hK.trans (.below ((Below.refl wr.heap.size wr).alloc (Nat.le_refl _) _) (Nat.lt_of_lt_of_le HB.out.2.lt hK.size) (fun g hg => by cases hg; exact hbb))
      have htk : xs.take (k + 1) = xs.take k ++ [xs[k]] := by rw [List.take_succ_eq_append_getElem hlt]
      have hy := HY.out (xs.take k) xs[k] _ hJ1 (by rw [← htk]; exact List.take_prefix _ _)
      rw [← htk] at hy
      generalize xs[k] = x at *
      have HQ := Lib.hid (And.intro hJ1 hK1); clear hJ1 hK1 hcs hJs hK hsl hLr htk
      have q0 := hr 0 _ rfl
      have q1 := hr 1 _ rfl
      simp only [Nat.add_zero] at q0 q1
      have hki : (k : Int) < xs.length := by omega
      obtain ⟨fn, tmps, assign, body, hyy, hR⟩ := hy
      try dsimp only at hyy
      simp only [eCSB] at hyy hR
      clear hr
      gi_wp2
      refine hR.mono ?_
      rintro e W3 (⟨rfl, hJ3, hk3⟩ | ⟨rfl, hJx3⟩)
      · have hK3 := HQ.out.2.trans hk3
        have HZ := Lib.hid (And.intro hJ3 hK3); clear hJ3 hk3 hK3
        gi_wp2
        go_roundw
        case rel => exact ⟨k + 1, by go_num, by omega, HZ.out.1, HZ.out.2⟩
        case measure => simp [intOf]; omega
      · gi_wp2
        refine bodyPost_ret (results_none rfl _ _ _) rfl ?_
        exact ⟨⟨_, rfl⟩, .inr ⟨_, List.take_prefix _ _, hJx3⟩⟩
    · obtain rfl : k = xs.length := by omega
      rw [List.take_length] at hJs
      gi_wp2
      go_end0
      exact ⟨⟨_, rfl⟩, .inl ⟨_, rfl, hJs⟩⟩
theorem toldSB_stops (n : Nat) (hn : 1 ≤ n) (gb : Nat) (v : Value) (xs : List (ByteArray × Bool)) (w : World) (hgb : Blk w gb 149 #[v]) (hv : Lies w 152 2 eCSB v xs) (hl : xs.length ≤ 1000000) :
    SeqStopsK Fence.wide n Tryz.prog 151 #[.pointer (some ⟨gb, 0, none⟩)] (fun x : ByteArray × Bool => #[Value.string x.1, (Value.bool) x.2]) (KeepIt gb v) (fun ys => ys = xs) (fun pre => pre <+: xs) xs.length w :=
  fun l J Jx W hW hJ hJx hY hJ0 => toldSB_tells n hn gb v xs w hgb hv hl l J Jx W hW (fun s A B row hs hg hr => hJ s A B row hs hg (fun r e => (hr r e).resolve_left id)) (fun s A B row hs hg hr => hJx s A B row hs hg (fun r e => (hr r e).resolve_left id))
    (fun pre x W1 h1 h2 => hY pre x W1 h1 (by obtain ⟨r, hr⟩ := h2; rw [← hr]; simp only [List.length_append, List.length_singleton]; omega)) hJ0
/-- an iterator over the entries xs -/
def SeqOfSB (xs : List (ByteArray × Bool)) (w : World) (e : Ending) (w' : World) : Prop :=
  ∃ gb v, e = .returned (.func (.func 151) #[] #[.pointer (some ⟨gb, 0, none⟩)]) ∧ Blk w' gb 149 #[v] ∧ Lies w' 152 2 eCSB v xs ∧ w.heap.size ≤ gb ∧ (∀ g, v.ownBlock = some g → g < w'.heap.size) ∧ Below w.heap.size w w'
theorem lies_ltSB {w : World} {te : TypeId} {size : Nat} {α : Type} {E : α → List Value} {v : Value} {l : List α} (h : Lies w te size E v l) (h0 : l = [] → v.ownBlock = none ∨ ∃ g, v.ownBlock = some g ∧ g < w.heap.size) : ∀ g, v.ownBlock = some g → g < w.heap.size := by
  intro g hg
  cases l with
  | nil =>
    rcases h0 rfl with h1 | ⟨g', h1, h2⟩
    · rw [h1] at hg; cases hg
    · rw [h1] at hg; cases hg; exact h2
  | cons x l =>
    obtain ⟨A, c, rfl, _, _, h3⟩ := h
    obtain ⟨g', off, cur, rfl, hb, _⟩ := h3 (by simp)
    cases hg
    exact hb.lt
set_option maxRecDepth 100000 in
theorem toldSB_any (w : World) (v : Value) (xs : List (ByteArray × Bool)) (hv : Lies w 152 2 eCSB v xs) (hb : ∀ g, v.ownBlock = some g → g < w.heap.size) :
    Calls Tryz.prog 90 #[v] w (SeqOfSB xs w) := by
  have hbl : Below w.heap.size w (w.alloc (.cells #[v] 149)) := (Below.refl _ _).alloc (Nat.le_refl _) _
  have HF := Lib.hid (⟨w.heap.size, v, rfl, Blk.new _ _ _, hv.below hbl, Nat.le_refl _, fun g hg => by have := hb g hg; simp; omega, hbl⟩ : SeqOfSB xs w (.returned (.func (.func 151) #[] #[.pointer (some ⟨w.heap.size, 0, none⟩)])) (w.alloc (.cells #[v] 149)))
  obtain ⟨A, c, rfl, _, _, _⟩ := hv
  clear hb hbl
  go_enter Tryz.func90, Tryz.ntmps90
  go_wp2_with fail
  go_ret
  exact HF.out
theorem SeqOfSB.mono {xs : List (ByteArray × Bool)} {w w1 : World} {e : Ending} {w' : World} (h : SeqOfSB xs w1 e w') (hb : Below w.heap.size w w1) : SeqOfSB xs w e w' := by
  obtain ⟨gb, v, he, h1, h2, h3, h4, h5⟩ := h
  exact ⟨gb, v, he, h1, h2, Nat.le_trans hb.size h3, h4, hb.trans (h5.mono hb.size)⟩
set_option maxRecDepth 100000 in
theorem srtAllSB_any (w : World) (bm : Nat) (xs : List (ByteArray × Bool)) (h : SMapSB w bm xs) :
    Calls Tryz.prog 39 #[.pointer (some ⟨bm, 0, none⟩)] w (SeqOfSB xs w) := by
  obtain ⟨v, hb, ho⟩ := h.row
  have hL := Lies.of_own ho eCSB_len (by decide)
  have hlt := fun g hg => (ho.lt g hg).2
  obtain ⟨A, c, rfl, _, _, _⟩ := SlV_of_any ho
  have HT := Lib.hid (toldSB_any w _ xs hL hlt)
  have hv1 : w.cell? ⟨bm, 1, none⟩ = some (.slice A xs.length c) := hb.cell 1
  clear hL hb ho h hlt
  go_enter Tryz.func39, Tryz.ntmps39
  go_wp2_with fail
  refine HT.out.mono ?_
  rintro e w1 ⟨gb, v, rfl, h1, h2, h3, h4, h5⟩
  have HF := Lib.hid (⟨gb, v, rfl, h1, h2, h3, h4, h5⟩ : SeqOfSB xs w (.returned (.func (.func 151) #[] #[.pointer (some ⟨gb, 0, none⟩)])) w1)
  clear h1 h2 h3 h4 h5 HT
  go_wp2_with fail
  go_ret
  exact HF.out
end Go.Proofs.YtmpgmgjokliceaaGreatDoor
/- slices.Reverse of a row of sorted.entry[string,bool] that the call owns. -/
set_option linter.unusedVariables false
set_option linter.unusedSimpArgs false
namespace Go.Proofs.YtmpgmgjokliceaaGreatDoor
open Go Go.RowKit
open Sw
set_option maxRecDepth 100000 in
set_option maxHeartbeats 4000000 in
theorem slReverseSB_any (w : World) (base : Nat) (v : Value) (n : Nat) (l : List (ByteArray × Bool)) (hl : l.length = n) (hn : n ≤ 1000000) (hown : w.ownsRow base 152 2 v n (l.flatMap eCSB)) :
    Calls Tryz.prog 92 #[v] w fun e w' => e = .returned (.tuple #[]) ∧ w'.ownsRow base 152 2 v n (l.reverse.flatMap eCSB) ∧ w.grownBy w' v.ownBlock := by
  have HO := Lib.hid hown
  have HL := Lib.hid hl; clear hl
  obtain ⟨A, c, rfl, hc1, hc2, _⟩ := SlV_of_any hown
  clear hown
  go_enter Tryz.func92, Tryz.ntmps92
  go_wp2_with fail
  go_loopw [2, 3] (fun iv jv wr => ∃ i : Nat, iv = .int .i64 i ∧ jv = .int .i64 ((n : Int) - 1 - i) ∧ 2 * i ≤ n + 1 ∧ wr.ownsRow base 152 2 (.slice A n c) n ((rvL i l).flatMap eCSB) ∧ w.grownBy wr (Value.slice A n c).ownBlock) (fun iv jv _ => (intOf jv - intOf iv + 1).toNat)
  case atStart => exact ⟨0, rfl, by simp, by omega, by rw [rvL_zero]; exact HO.out, grown_refl _ _⟩
  case round =>
    obtain ⟨i, rfl, rfl, hin, ho, hg⟩ := hrel
    have hrl := rvL_len i l
    have HR := Lib.hid (And.intro ho hg); clear ho hg
    by_cases hlt : (i : Int) < (n : Int) - 1 - i
    · obtain ⟨j, hj⟩ : ∃ j : Nat, (n : Int) - 1 - i = j := ⟨n - 1 - i, by omega⟩
      have hji : i < j := by omega
      have hjn : j < n := by omega
      have hjx : j = n - 1 - i := by omega
      obtain ⟨g, cap, cur, hA, hbg, hB, hnc, hcm, hcs, htk⟩ := own_form HR.out.1 (by omega)
      obtain ⟨rfl, rfl⟩ : A = some ⟨g, 0, none⟩ ∧ c = cap := by injection hA with e1 e2 e3; exact ⟨e1, e3⟩
      have hcell := fun (m : Nat) (hm : m < n) (q : Nat) (hq : q < 2) => (by
        have hm' : m < (rvL i l).length := by rw [hrl, HL.out]; exact hm
        have h1 := flat_get eCSB_len (rvL i l) m hm' q hq
        have h2 : m * 2 + q < n * 2 := by have : (m + 1) * 2 ≤ n * 2 := Nat.mul_le_mul_right _ hm; omega
        rw [hB.cell, ← Array.getElem?_toList, ← h1, ← htk, List.getElem?_take, if_pos h2] : wr.cell? ⟨g, m * 2 + q, none⟩ = (eCSB ((rvL i l)[m]'(by rw [hrl, HL.out]; exact hm)))[q]?)
      have hjl : j < (rvL i l).length := by rw [hrl, HL.out]; exact hjn
      have hil : i < (rvL i l).length := by rw [hrl, HL.out]; omega
      have hstep : rvL (i + 1) l = ((rvL i l).set i (rvL i l)[j]).set j (rvL i l)[i] := by
        have := rvL_step i l (by have := HL.out; omega)
        have hx : l.length - 1 - i = j := by have := HL.out; omega
        simp only [hx] at this
        exact this
      obtain ⟨x, hx⟩ : ∃ x, (rvL i l)[i] = x := ⟨_, rfl⟩
      obtain ⟨y, hy⟩ : ∃ y, (rvL i l)[j] = y := ⟨_, rfl⟩
      have hci := hcell i (by omega)
      have hcj := hcell j hjn
      simp only [hx] at hci
      simp only [hy] at hcj
      rw [hx, hy] at hstep
      have a0 : wr.cell? ⟨g, i * 2, none⟩ = _ := hci 0 (by omega)
      have a1 : wr.cell? ⟨g, i * 2 + 1, none⟩ = _ := hci 1 (by omega)
      simp only [eCSB, List.getElem?_cons_succ, List.getElem?_cons_zero] at a0 a1
      have b0 : wr.cell? ⟨g, j * 2, none⟩ = _ := hcj 0 (by omega)
      have b1 : wr.cell? ⟨g, j * 2 + 1, none⟩ = _ := hcj 1 (by omega)
      simp only [eCSB, List.getElem?_cons_succ, List.getElem?_cons_zero] at b0 b1
      have fa0 := hB.frozen (i * 2)
      have fa1 := hB.frozen (i * 2 + 1)
      have fb0 := hB.frozen (j * 2)
      have fb1 := hB.frozen (j * 2 + 1)
      have HST := Lib.hid (by
        have h1 := own_setCells (eCSB y) (i * 2) wr _ HR.out.1 (by rw [eCSB_len]; omega)
        have f1 := flat_put eCSB_len (rvL i l) i hil y 0 (eCSB y) (by rw [eCSB_len]; omega) (by simp [eCSB_len])
        simp only [Nat.add_zero] at f1
        rw [f1] at h1
        have h2 := own_setCells (eCSB x) (j * 2) _ _ h1 (by rw [eCSB_len]; omega)
        have f2 := flat_put eCSB_len ((rvL i l).set i y) j (by rw [List.length_set]; exact hjl) x 0 (eCSB x) (by rw [eCSB_len]; omega) (by simp [eCSB_len])
        simp only [Nat.add_zero] at f2
        rw [f2, ← hstep] at h2
        exact And.intro h2 (grown_setCells (eCSB x) (j * 2) _ (grown_setCells (eCSB y) (i * 2) wr HR.out.2)))
      clear hcell hci hcj hstep hx hy hB htk hcs
      rw [hj]
      have q1 : (j : Int) < n := by omega
      have q2 : (i : Int) < n := by omega
      have q3 : (i : Int) < j := by omega
      have q4 : i < j := hji
      have HJ := Lib.hid hj; clear hj hjx
      go_wp2_with fail
      go_region
      all_goals
        go_wp2_with fail
        go_roundw
        case rel => exact ⟨i + 1, by go_num, by have := HJ.out; go_num, by omega, own_drew HST.out.1, grown_drew HST.out.2⟩
        case measure => simp [intOf]; omega
    · have hF : rvL i l = l.reverse := rvL_end i l (by have := HL.out; omega)
      rw [hF] at HR
      go_wp2_with fail
      go_end0
      exact ⟨rfl, HR.out.1, HR.out.2⟩
end Go.Proofs.YtmpgmgjokliceaaGreatDoor
/- sorted.Map[string,bool]: Back. -/
set_option linter.unusedVariables false
set_option linter.unusedSimpArgs false
namespace Go.Proofs.YtmpgmgjokliceaaGreatDoor
open Go Go.RowKit Go.Shelf
open Sw
set_option maxRecDepth 100000 in
set_option maxHeartbeats 1000000 in
theorem srtBackSB_any (w : World) (bm : Nat) (xs : List (ByteArray × Bool)) (h : SMapSB w bm xs) (hn : xs.length ≤ 1000000) :
    Calls Tryz.prog 37 #[.pointer (some ⟨bm, 0, none⟩)] w (SeqOfSB xs.reverse w) := by
  obtain ⟨v, hb, ho⟩ := h.row
  have HC := Lib.hid (slCloneSB_any eCSB eCSB_len eCSB_one w v xs (SlV.of_own ho eCSB_len (by decide)) hn)
  obtain ⟨A, c, rfl, _, _, _⟩ := SlV_of_any ho
  have hv1 : w.cell? ⟨bm, 1, none⟩ = some (.slice A xs.length c) := hb.cell 1
  clear hb ho h
  go_enter Tryz.func37, Tryz.ntmps37
  go_wp2_with fail
  refine HC.out.mono ?_
  rintro e w1 ⟨v1, rfl, ho1, hb1⟩
  have HR := Lib.hid (slReverseSB_any w1 w.heap.size v1 xs.length xs rfl hn ho1)
  have HB1 := Lib.hid hb1; clear hb1
  have HO := Lib.hid ho1; clear ho1
  go_wp2_with fail
  refine HR.out.mono ?_
  rintro e w2 ⟨rfl, ho2, hg2⟩
  have hb2 : Below w.heap.size w w2 := HB1.out.grown hg2 HB1.out.size (fun k hk => (HO.out.lt k hk).1)
  have hrl : xs.reverse.length = xs.length := List.length_reverse
  have ho3 := ho2
  rw [← hrl] at ho3
  have HT := Lib.hid (toldSB_any w2 v1 xs.reverse (Lies.of_own ho3 eCSB_len (by decide)) (fun g hg => (ho2.lt g hg).2))
  have HB2 := Lib.hid hb2; clear hb2 ho2 ho3 hg2 hrl
  go_wp2_with fail
  refine HT.out.mono ?_
  intro e w3 hp
  obtain ⟨gb, v, rfl, h1, h2, h3, h4, h5⟩ := hp.mono HB2.out
  have HF := Lib.hid (⟨gb, v, rfl, h1, h2, h3, h4, h5⟩ : SeqOfSB xs.reverse w (.returned (.func (.func 151) #[] #[.pointer (some ⟨gb, 0, none⟩)])) w3)
  clear h1 h2 h3 h4 h5 HT hp
  go_wp2_with fail
  go_ret
  exact HF.out
end Go.Proofs.YtmpgmgjokliceaaGreatDoor
