/- A device: what was written becomes sure. -/
import Derived.Test.YtlogdionhgabdaaDevWrite
import Derived.Test.YtlogdionhgabdaaDevPend
set_option linter.unusedVariables false
set_option linter.unusedSimpArgs false
namespace Sw
open Go Go.RowKit
/-- the map of what is sure, those places done that are no longer to come -/
def fluF (l : List (Int × ByteArray)) (f : Int → Option Value) (left : Int → Bool) : Int → Option Value := fun i => match (wetAt l i).getLast? with | some s => if left i then f i else some (.string s) | none => f i
/-- just this world -/
def JustW (w : World) (W : World) : Prop := W = w
theorem JustW.out {w : World} (m : Held (JustW w)) : HeldW m = w := HeldW_spec m
end Sw
namespace Go.Proofs.Ytlogdionhgabdaa
open Go Go.RowKit
open Sw
section
variable {w w' : World} {F : Nat → Prop} {bd bs bw : Nat} {fS fW : Int → Option Value} {d : Dv}
/-- the loop over what was written, under way -/
structure FluI (w1 : World) (F : Nat → Prop) (bd bs bw : Nat) (fS fW : Int → Option Value) (d : Dv) (left : Int → Bool) (cnt : Nat) (wr : World) : Prop where
  box : Blk wr bd 53 #[.int .i64 d.size, .map (some bs), .map (some bw), .int .i64 d.limit, .int .i64 d.fuse, .bool d.off, .int .i64 d.ops]
  sure : MapI wr Try.prog 3 bs 8192 (fluF d.wet fS left)
  run : RunsI wr Try.prog 3 bw w1.heap.size 8192 fW left cnt
  wet : WetIs wr Try.prog 9 d.wet fW
  turn : Turn F w1 wr
theorem FluI.start (h : DevIn w F bd bs bw fS fW d) {w0 : World} {cnt : Nat} (hr : RunsI w0 Try.prog 3 bw w.heap.size 8192 fW (fun i => (fW i).isSome) cnt) (hg : w.grownBy w0 none) : FluI w F bd bs bw fS fW d (fun i => (fW i).isSome) cnt w0 := by
  refine ⟨h.box.grown hg (by simp), (h.sure.kept hg (by simp)).congr (fun i _ => ?_), hr, h.wetIs.same (fun i v g hf hv => hg.block g (h.wetIs.lt hf hv) (by simp)), (Turn.refl F w).grown hg (fun g hg => by cases hg)⟩
  unfold fluF
  cases hl : (wetAt d.wet i).getLast? with
  | none => rfl
  | some s =>
    have hne : wetAt d.wet i ≠ [] := by intro h0; rw [h0] at hl; cases hl
    obtain ⟨v, hv, _⟩ := h.wetIs.got i hne
    simp [hv]
theorem FluI.next (h : DevIn w F bd bs bw fS fW d) (hok : d.Ok) {left : Int → Bool} {cnt cnt' : Nat} {wr w2 w4 : World} {x : Int} {s : ByteArray} (hI : I64 x) (hI2 : FluI w F bd bs bw fS fW d left cnt wr) (hl : (wetAt d.wet x).getLast? = some s)
    (hrg : RunsI w2 Try.prog 3 bw w.heap.size 8192 fW (fun j => left j && !(j == x)) cnt') (hg2 : wr.grownBy w2 (some w.heap.size)) (hm : MapI w4 Try.prog 3 bs 8193 (updI (fluF d.wet fS left) x (.string s))) (hg4 : w2.grownBy w4 (some bs)) :
    FluI w F bd bs bw fS fW d (fun j => left j && !(j == x)) cnt' w4 := by
  have hbd := h.box.lt
  have hsm : ∀ g, g < w.heap.size → g ≠ bs → w4.heap[g]? = wr.heap[g]? := fun g hg hne =>
    (hg4.block g (Nat.lt_of_lt_of_le (Nat.lt_of_lt_of_le hg hI2.turn.size) hg2.size) (fun e => hne (by cases e; rfl))).trans (hg2.block g (Nat.lt_of_lt_of_le hg hI2.turn.size) (fun e => by cases e; omega))
  have hrs := h.sure.lt
  refine ⟨(hsm bd hbd h.neS).trans hI2.box, ?_, hrg.kept hg4 (fun e => h.ne (by cases e; rfl)) (fun e => by cases e; omega), ?_, (hI2.turn.grown hg2 (fun g hg => by cases hg; exact .inr (Nat.le_refl _))).grown hg4 (fun g hg => by cases hg; exact .inl h.inS)⟩
  · refine (hm.tight Try.underlying3 (m := 8192) (fun i _ hi => ?_)).congr (fun i _ => ?_)
    · unfold updI at hi
      by_cases hix : i = x
      · subst hix
        have := hok.key (i := i) (by intro h0; rw [h0] at hl; cases hl)
        have := hok.size
        omega
      · rw [if_neg hix] at hi
        unfold fluF at hi
        have hcase : (fS i).isSome = true ∨ wetAt d.wet i ≠ [] := by
          cases hl' : (wetAt d.wet i).getLast? with
          | none => rw [hl'] at hi; exact .inl hi
          | some s' => exact .inr (by intro h0; rw [h0] at hl'; cases hl')
        have h8 := hok.size
        rcases hcase with hc | hc
        · have := h.sureIs.1 i hc; omega
        · have := hok.key hc; omega
    · unfold updI fluF
      by_cases hix : i = x
      · subst hix
        rw [hl]
        simp
      · simp [hix]
  · refine hI2.wet.same (fun i v g hf hv => hsm g (h.wetIs.lt hf hv) (h.neR hf hv).2.1)
theorem FluI.done (h : DevIn w F bd bs bw fS fW d) (hok : d.Ok) {left : Int → Bool} {cnt : Nat} {wr w5 : World} (hI2 : FluI w F bd bs bw fS fW d left cnt wr) (hl : ∀ i, I64 i → left i = false)
    (hm : MapI w5 Try.prog 3 bw 8192 (fun _ => none)) (hg5 : wr.grownBy w5 (some bw)) : DevIn w5 F bd bs bw (fluF d.wet fS (fun _ => false)) (fun _ => none) { d with sure := flushL d.sure d.wet, wet := [] } ∧ Turn F w w5 := by
  have hbs : some bs ≠ some bw := fun e => h.ne (by cases e; rfl)
  refine ⟨⟨hI2.box.grown hg5 (fun e => h.neW (by cases e; rfl)), (hI2.sure.kept hg5 hbs).congr (fun i hi => ?_), hm, ⟨fun i hi => ?_, fun i hi => ?_⟩, ⟨fun _ _ => rfl, fun i hi => absurd rfl hi, fun i j v v' g hf => (by cases hf)⟩, h.ne, h.inD, h.inS, h.inW, fun i v g hf => (by cases hf), fun i hi => ?_⟩, hI2.turn.grown hg5 (fun g hg => by cases hg; exact .inl h.inW)⟩
  · unfold fluF
    rw [hl i hi]
  · unfold fluF at hi
    cases hl' : (wetAt d.wet i).getLast? with
    | none => rw [hl'] at hi; exact h.sureIs.1 i hi
    | some s' => exact hok.key (by intro h0; rw [h0] at hl'; cases hl')
  · have hi' : i < d.size := hi
    have h1 := flushL_get d.wet.length d.wet d.sure rfl (fun e he => (hok.wet e he).1) i (by rw [hok.len]; exact hi')
    show (fluF d.wet fS (fun _ => false) i).getD (.string zS) = .string ((flushL d.sure d.wet).getD i zS)
    rw [h1]
    unfold fluF
    cases hl' : (wetAt d.wet (i : Int)).getLast? with
    | none => exact h.sureIs.2 i hi'
    | some s' => rfl
  · have := h.lt i hi
    have h1 := hI2.turn.size
    have h2 := hg5.size
    omega
set_option maxRecDepth 100000 in
theorem devFlush_any (h : DevIn w F bd bs bw fS fW d) (hok : d.Ok) (hwl : d.wet.length ≤ 1000000) (hop : d.ops ≤ 1000000) :
    Calls Try.prog 12 #[.pointer (some ⟨bd, 0, none⟩)] w fun e w' => e = .returned (.int .i64 d.flush.1) ∧ (∃ F', DevAt w' F' bd d.flush.2 ∧ ∀ j, F' j → F j ∨ w.heap.size ≤ j) ∧ Turn F w w' := by
  have hat : DevAt w F bd d := ⟨bs, bw, fS, fW, h⟩
  have HAT := Lib.hid (show (∃ F', DevAt w F' bd d ∧ ∀ j, F' j → F j ∨ w.heap.size ≤ j) ∧ Turn F w w from ⟨⟨F, hat, fun j hj => .inl hj⟩, Turn.refl F w⟩)
  have c5 := h.box.cell 5
  simp at c5
  unfold Dv.flush
  by_cases hoff : d.off = true
  · rw [if_pos hoff]
    rw [hoff] at c5
    clear h hat hok
    go_enter Try.func12, Try.ntmps12
    go_wp2_with fail
    go_ret
    exact ⟨rfl, HAT.out⟩
  · rw [if_neg hoff]
    have hoff' : d.off = false := by simpa using hoff
    rw [hoff'] at c5
    by_cases hf : d.fuse = 0
    · rw [if_pos hf]
      have HPW := Lib.hid (devPower_no h hf)
      clear h hat hok hf HAT hoff
      go_enter Try.func12, Try.ntmps12
      go_wp2_with fail
      refine HPW.out.mono ?_
      rintro e w1 ⟨rfl, hd, ht⟩
      have HD := Lib.hid (And.intro hd ht); clear hd ht
      go_wp2_with fail
      go_ret
      exact ⟨rfl, ⟨F, ⟨bs, bw, fS, fW, HD.out.1⟩, fun j hj => .inl hj⟩, HD.out.2⟩
    · rw [if_neg hf]
      have HPW := Lib.hid (devPower_yes h hf hok.f0 hok.f1 hok.o0 hop)
      have hokp : d.pow.Ok := hok.pow
      have hwlp : d.pow.wet.length ≤ 1000000 := hwl
      have HP := Lib.hid (And.intro hokp hwlp)
      clear h hat hok hf HAT hoff hokp hwlp hoff' hwl hop
      obtain ⟨D, hD⟩ : ∃ D, d.pow = D := ⟨_, rfl⟩
      have hR : ({ d.pow with sure := flushL d.sure d.wet, wet := [] } : Dv) = { D with sure := flushL D.sure D.wet, wet := [] } := by rw [← hD]; rfl
      rw [hR]
      rw [hD] at HPW HP
      clear hR hD
      go_enter Try.func12, Try.ntmps12
      go_wp2_with fail
      refine HPW.out.mono ?_
      rintro e w1 ⟨rfl, hd, ht⟩
      have b2 := hd.box.cell 2
      simp at b2
      have HD := Lib.hid (And.intro hd ht); clear hd ht HPW
      go_wp2_with (at_range; refine wpList_rangeI rfl _ 51 rfl 3 40 Try.underlying3 Try.underlying51 bw 8192 fW rfl HD.out.1.wet ?_; intro w0 cnt0 hrg0 hg0 hs0)
      go_frame
      have HR := Lib.hid (FluI.start HD.out.1 hrg0 hg0); clear hrg0 hg0 hs0 b2
      go_loopw [26] (fun _ wr => ∃ left cnt, FluI w1 F bd bs bw fS fW D left cnt wr) (fun _ wr => wr.rangeLeft bw w1.heap.size)
      case atStart => exact ⟨_, _, HR.out⟩
      case round =>
        obtain ⟨left, cnt, hfl⟩ := hrel
        have HG := Lib.hid hfl; clear hfl HR
        have b1 := HG.out.box.cell 1
        have b2 := HG.out.box.cell 2
        simp at b1 b2
        go_wp2_with (at_next; refine wpList_nextI rfl _ rfl 3 Try.underlying3 bw w1.heap.size 8192 fW left cnt rfl HG.out.run ?_ ?_)
        · intro hl
          go_wp2_with (with_reducible refine wpList_wipeI rfl _ 51 rfl 3 40 Try.underlying51 bw 8192 fW rfl HG.out.run.owns ?_; intro w5 hm5 hg5)
          have HF := Lib.hid (FluI.done HD.out.1 HP.out.1 HG.out hl hm5 hg5); clear hm5 hg5 hl
          go_wp2_with fail
          go_ret
          exact ⟨rfl, ⟨F, ⟨bs, bw, _, _, HF.out.1⟩, fun j hj => .inl hj⟩, HD.out.2.trans HF.out.2 (fun j hj => .inl hj)⟩
        · intro x v w2 cnt1 hx hlx hfx hrg1 hlt hg1 hs1 hen
          have hr2 : w1.heap.size ≤ w1.heap.size := Nat.le_refl _
          obtain ⟨hne, hov⟩ := HG.out.wet.mem hfx
          have hpos : 0 < (wetAt D.wet x).length := List.length_pos_iff.2 hne
          obtain ⟨g, cap, cur, rfl, _, hgb, hnc, hcm, hsz, htk⟩ := own_form hov hpos
          have hgr : g ≠ w1.heap.size := fun e => by have := HD.out.1.wetIs.lt hfx (g := g) rfl; omega
          have hov2 := own_same (w' := w2) hov (fun g' hg' => by cases hg'; exact hg1.block g hgb.lt (fun e => hgr (by cases e; rfl)))
          have hlw := wetAt_len D.wet x
          have hlast := hov2.cells rfl ((wetAt D.wet x).length - 1) (.string ((wetAt D.wet x).getLast hne)) (by rw [List.getElem?_map, List.getElem?_eq_getElem (by omega), List.getLast_eq_getElem]; rfl)
          rw [show ((⟨g, 0, none⟩ : Addr).add ((wetAt D.wet x).length - 1)) = ⟨g, (wetAt D.wet x).length - 1, none⟩ by rw [add_mk, Nat.zero_add]] at hlast
          have hgl : (wetAt D.wet x).getLast? = some ((wetAt D.wet x).getLast hne) := List.getLast?_eq_some_getLast hne
          have hmeas : w2.rangeLeft bw w1.heap.size < wr.rangeLeft bw w1.heap.size := by rw [hrg1.left_eq, HG.out.run.left_eq]; exact hlt
          have hbs1 : w2.cell? ⟨bd, 1, none⟩ = some (.map (some bs)) := (World.cell?_of_block (a := ⟨bd, 1, none⟩) (hg1.block bd HG.out.box.lt (fun e => by cases e; have := HD.out.1.box.lt; omega))).trans b1
          have hms := HG.out.sure.kept hg1 (fun e => by cases e; have := HD.out.1.sure.lt; omega)
          have H1 := Lib.hid (And.intro hms (And.intro hgl (And.intro hrg1 (And.intro hg1 hmeas)))); clear hms hgl hrg1 hg1 hmeas hlt hov hov2 htk hfx
          generalize (wetAt D.wet x).getLast hne = q at *
          clear hne
          have hlw2 := HP.out.2
          generalize (wetAt D.wet x).length = n at *
          have hp1 : (0 : Int) < n := by omega
          have ww : IntKind.i64.wrap ((n : Int) - 1) = n - 1 := IntWalk.i64_in _ (by omega)
          have hn1 : ((n : Int) - 1).toNat = n - 1 := by omega
          have j1 : ∀ m : Held (JustW w2.drew), (HeldW m).cell? ⟨bd, 1, none⟩ = some (.map (some bs)) := fun m => by rw [JustW.out m]; exact hbs1
          have jc : ∀ m : Held (JustW w2.drew), (HeldW m).cell? ⟨g, n - 1, none⟩ = some (.string q) := fun m => by rw [JustW.out m]; exact hlast
          have HJ := Lib.hid (show JustW w2.drew w2.drew from rfl)
          go_wp2_with fail
          refine wp_region_mixD (JustW w2.drew) [(0, true), (1, true), (2, true), (3, true), (4, true), (5, true), (6, true), (7, true), (8, true), (9, true), (10, true), (11, false)] (by kernel_rfl) (by kernel_rfl) ?_
          simp only [pickP, List.filterMap_cons, List.filterMap_nil, List.getElem?_toArray, List.getElem?_cons_succ, List.getElem?_cons_zero, Option.map_some]
          repeat (apply mixD_first; apply Exists.intro; refine ⟨fun m => ?_, HJ.out, ?_⟩; · (go_big_quiet_step (fail); exact wpQuiet_nil rfl))
          refine mixD_forced HJ.out ?_
          go_wp2_with (at_mapUpdate; refine wpList_storeI rfl _ _ _ 50 rfl 3 9 Try.underlying3 Try.underlying50 bs 8192 _ rfl H1.out.1.drew (by unfold maxLen; omega) x rfl hx _ rfl ?_; intro w4 hm4 hg4)
          have HF := Lib.hid (FluI.next HD.out.1 HP.out.1 hx HG.out H1.out.2.1 H1.out.2.2.1 H1.out.2.2.2.1 hm4 (grown_of_drew hg4))
          have hlr : w4.rangeLeft bw w1.heap.size = w2.rangeLeft bw w1.heap.size := by rw [HF.out.run.left_eq, H1.out.2.2.1.left_eq]
          have HL := Lib.hid hlr; clear hlr hm4 hg4 j1 jc
          show mixD _ _ _ _ _ _ _
          refine mixD_nil ?_
          go_wp2_with fail
          go_roundw
          case rel => exact ⟨_, _, HF.out⟩
          case measure => rw [HL.out]; exact H1.out.2.2.2.2
end
end Go.Proofs.Ytlogdionhgabdaa
