/- The reference's device: what was written becomes sure. -/
import Derived.Test.YtlogdionhgabdaaDevRefC
import Derived.Test.YtlogdionhgabdaaDevFlush
set_option linter.unusedVariables false
set_option linter.unusedSimpArgs false
namespace Go.Proofs.Ytlogdionhgabdaa
open Go Go.RowKit
open Sw
section
variable {w w' : World} {F G : Nat → Prop} {br : Nat} {vS vW : Value} {d : Dv}
/-- the reference under way: its row of sure sectors is S -/
structure RefS (w : World) (G : Nat → Prop) (br : Nat) (vS vW : Value) (d : Dv) (S : List ByteArray) (wr : World) : Prop where
  ref : RefIn wr G br vS vW { d with sure := S }
  turn : Turn G w wr
theorem RefS.keep {S : List ByteArray} {wr wr' : World} (h : RefS w G br vS vW d S wr) (hb : Below wr.heap.size wr wr') : RefS w G br vS vW d S wr' := ⟨h.ref.below hb, h.turn.below hb⟩
theorem RefS.put {S : List ByteArray} {wr : World} {g n c : Nat} (h : RefS w G br (.slice (some ⟨g, 0, none⟩) n c) vW d S wr) (hn : n = d.size) (i : Nat) (s : ByteArray) : RefS w G br (.slice (some ⟨g, 0, none⟩) n c) vW d (S.set i s) (wr.setCell ⟨g, i, none⟩ (.string s)) := by
  subst hn
  have hgb : g ≠ br := h.ref.neS rfl
  have hset : ∀ j, j ≠ g → (wr.setCell ⟨g, i, none⟩ (.string s)).heap[j]? = wr.heap[j]? := fun j hj => Below.heap_setCell wr _ _ j hj
  have hst := (h.ref.sure.stored i (.string s)).1
  refine ⟨⟨(hset br hgb.symm).trans h.ref.box, ?_, own_same h.ref.wet (fun g' hg' => hset g' (fun e => h.ref.neSW (g := g) rfl (by rw [← e]; exact hg'))), h.ref.inD, h.ref.inS, h.ref.inW, fun j hj => by simpa [World.setCell] using h.ref.lt j hj⟩, h.turn.put _ (h.ref.inS g rfl) _⟩
  show World.ownsRow _ 0 9 1 _ d.size ((S.set i s).map Value.string)
  rw [List.map_set]
  exact hst
set_option maxRecDepth 100000 in
theorem refFlush_any (h : RefIn w G br vS vW d) (hok : d.Ok) (hwl : d.wet.length ≤ 999998) (hop : d.ops ≤ 1000000) :
    Calls Try.prog 18 #[.pointer (some ⟨br, 0, none⟩)] w fun e w' => e = .returned (.int .i64 d.flush.1) ∧ (∃ G', RefAt w' G' br d.flush.2 ∧ ∀ j, G' j → G j ∨ w.heap.size ≤ j) ∧ Turn G w w' := by
  have hat : RefAt w G br d := ⟨_, _, h⟩
  have HAT := Lib.hid (show (∃ G', RefAt w G' br d ∧ ∀ j, G' j → G j ∨ w.heap.size ≤ j) ∧ Turn G w w from ⟨⟨G, hat, fun j hj => .inl hj⟩, Turn.refl G w⟩)
  have c5 := h.box.cell 4
  simp at c5
  unfold Dv.flush
  by_cases hoff : d.off = true
  · rw [if_pos hoff]
    rw [hoff] at c5
    clear h hat hok
    go_enter Try.func18, Try.ntmps18
    go_wp2_with fail
    go_ret
    exact ⟨rfl, HAT.out⟩
  · rw [if_neg hoff]
    have hoff' : d.off = false := by simpa using hoff
    rw [hoff'] at c5
    by_cases hf : d.fuse = 0
    · rw [if_pos hf]
      have HPW := Lib.hid (refPower_no h hf)
      clear h hat hok hf HAT hoff
      go_enter Try.func18, Try.ntmps18
      go_wp2_with fail
      refine HPW.out.mono ?_
      rintro e w1 ⟨rfl, hd, ht⟩
      have HD := Lib.hid (And.intro hd ht); clear hd ht
      go_wp2_with fail
      go_ret
      exact ⟨rfl, ⟨G, ⟨_, _, HD.out.1⟩, fun j hj => .inl hj⟩, HD.out.2⟩
    · rw [if_neg hf]
      have HPW := Lib.hid (refPower_yes h hf hok.f0 hok.f1 hok.o0 hop)
      have hokp : d.pow.Ok := hok.pow
      have hwlp : d.pow.wet.length ≤ 999998 := hwl
      have HP := Lib.hid (And.intro hokp hwlp)
      clear h hat hok hf HAT hoff hokp hwlp hoff' hwl hop
      obtain ⟨D, hD⟩ : ∃ D, d.pow = D := ⟨_, rfl⟩
      have hR : ({ d.pow with sure := flushL d.sure d.wet, wet := [] } : Dv) = { D with sure := flushL D.sure D.wet, wet := [] } := by rw [← hD]; rfl
      rw [hR]
      rw [hD] at HPW HP
      clear hR hD
      go_enter Try.func18, Try.ntmps18
      go_wp2_with fail
      refine HPW.out.mono ?_
      rintro e w1 ⟨rfl, hd, ht⟩
      obtain ⟨AW, cW, hvw, _⟩ := SlV_of_any hd.wet
      subst hvw
      have b1 := hd.box.cell 1
      simp at b1
      have hwv : SlOf w1 2 wE AW D.wet := by
        obtain ⟨A', c', he, _, _, hs⟩ := SlV.of_own hd.wet (fun _ => rfl) (by decide)
        cases he
        exact hs
      obtain ⟨m, hm⟩ : ∃ m, D.wet.length = m := ⟨_, rfl⟩
      rw [hm] at hd b1
      have hmb : m ≤ 999998 := by rw [← hm]; exact HP.out.2
      have HD := Lib.hid (And.intro (show RefS w1 G br vS (.slice AW m cW) D D.sure w1 from ⟨hd, Turn.refl G w1⟩) (And.intro ht (And.intro hwv hm))); clear hd ht hwv hm HPW
      go_wp2_with fail
      go_loopw [19] (fun t wr => ∃ j : Nat, j ≤ m ∧ t = .int .i64 j ∧ RefS w1 G br vS (.slice AW m cW) D (flushL D.sure (D.wet.take j)) wr ∧ SlOf wr 2 wE AW D.wet) (fun t _ => m - (intOf t).toNat)
      case atStart => exact ⟨0, Nat.zero_le _, rfl, HD.out.1, HD.out.2.2.1⟩
      case round =>
        obtain ⟨j, hj, rfl, hrs, hsl⟩ := hrel
        by_cases hlt : j < m
        · have hjl : j < D.wet.length := by rw [HD.out.2.2.2]; exact hlt
          obtain ⟨b, off, hA, hbb, hcs⟩ := id hsl (by omega)
          have q0 := hcs j hjl 0 (by omega)
          have q1 := hcs j hjl 1 (by omega)
          simp only [wE, List.getElem?_cons_succ, List.getElem?_cons_zero, Nat.add_zero] at q0 q1
          subst hA
          clear hcs
          have hkey := HP.out.1.wet _ (List.getElem_mem hjl)
          have hstep := flushL_snoc (D.wet.take j) D.sure (D.wet[j])
          have htk : D.wet.take (j + 1) = D.wet.take j ++ [D.wet[j]] := by rw [List.take_add_one, List.getElem?_eq_getElem hjl]; rfl
          rw [← htk] at hstep
          obtain ⟨⟨ka, ks⟩, hx⟩ : ∃ x, D.wet[j] = x := ⟨_, rfl⟩
          rw [hx] at q0 q1 hstep hkey
          simp only at q0 q1 hstep hkey
          obtain ⟨kn, rfl⟩ : ∃ kn : Nat, ka = kn := ⟨ka.toNat, by omega⟩
          have hkn : kn < D.size := by omega
          have hj1 : (j : Int) < m := by omega
          obtain ⟨W, hW⟩ : ∃ W, wr.alloc (.cells #[.int .i64 kn, .string ks] 59) = W := ⟨_, rfl⟩
          obtain ⟨N, hN⟩ : ∃ N, wr.heap.size = N := ⟨_, rfl⟩
          have hbW : Below wr.heap.size wr W := by rw [← hW]; exact (Below.refl _ _).alloc (Nat.le_refl _) _
          have hblk : Blk W N 59 #[.int .i64 kn, .string ks] := by rw [← hW, ← hN]; exact Blk.new wr _ _
          have hrsW := hrs.keep hbW
          have hslW := hsl.below hbW (Nat.le_refl _)
          obtain ⟨g, cap, cur, hg1, _, hgb, hnc, hcm, hsz, htk2⟩ := own_form hrsW.ref.sure (by show 0 < D.size; omega)
          subst hg1
          have hsd : (flushL D.sure (D.wet.take j)).length = D.size := by rw [flushL_len]; exact HP.out.1.len
          have hcg : W.cell? ⟨g, kn, none⟩ = some (.string ((flushL D.sure (D.wet.take j)).getD kn zS)) := by
            have := hrsW.ref.sure.cells rfl kn (.string ((flushL D.sure (D.wet.take j)).getD kn zS)) (by
              show ((flushL D.sure (D.wet.take j)).map Value.string)[kn]? = _
              rw [List.getElem?_map, List.getElem?_eq_getElem (by rw [hsd]; exact hkn), List.getD_eq_getElem?_getD, List.getElem?_eq_getElem (by rw [hsd]; exact hkn)]; rfl)
            rw [show ((⟨g, 0, none⟩ : Addr).add kn) = ⟨g, kn, none⟩ by rw [add_mk, Nat.zero_add]] at this
            exact this
          have hfg : W.frozen? ⟨g, kn, none⟩ = false := Blk.frozen hgb kn
          have hb0 := hrsW.ref.box.cell 0
          simp at hb0
          have n0 := hblk.cell 0
          have n1 := hblk.cell 1
          simp at n0 n1
          have j0 : ∀ m' : Held (JustW W.drew), (HeldW m').cell? ⟨br, 0, none⟩ = some (.slice (some ⟨g, 0, none⟩) D.size cap) := fun m' => by rw [JustW.out m']; exact hb0
          have jn0 : ∀ m' : Held (JustW W.drew), (HeldW m').cell? ⟨N, 0, none⟩ = some (.int .i64 kn) := fun m' => by rw [JustW.out m']; exact n0
          have jn1 : ∀ m' : Held (JustW W.drew), (HeldW m').cell? ⟨N, 1, none⟩ = some (.string ks) := fun m' => by rw [JustW.out m']; exact n1
          have hcg2 : W.drew.cell? ⟨g, kn, none⟩ = some (.string ((flushL D.sure (D.wet.take j)).getD kn zS)) := hcg
          have hfg2 : W.drew.frozen? ⟨g, kn, none⟩ = false := hfg
          have hki : (kn : Int) < D.size := by omega
          have HJ := Lib.hid (show JustW W.drew W.drew from rfl)
          have hfin := RefS.put hrsW (by rfl) kn ks
          have hend := (Turn.refl G w1)
          have HS := Lib.hid (And.intro hfin hstep)
          have HSL := Lib.hid (show SlOf (W.setCell ⟨g, kn, none⟩ (.string ks)) 2 wE (some ⟨b, off, none⟩) D.wet from fun hp => by
            obtain ⟨b', off', hA, hb', hc'⟩ := hslW hp
            refine ⟨b', off', hA, by simpa [World.setCell] using hb', fun i hi k hk => ?_⟩
            rw [← hc' i hi k hk]
            have hne : b' ≠ g := by
              intro e
              have e1 : (RefIn.neSW hrsW.ref (g := g) rfl) = (RefIn.neSW hrsW.ref (g := g) rfl) := rfl
              refine hrsW.ref.neSW (g := g) rfl ?_
              cases hA
              show some b = some g
              rw [e]
            exact World.cell?_of_block (a := ⟨b', _, none⟩) (Below.heap_setCell W _ _ b' hne))
          clear hstep hfin hend htk htk2 hrs hsl hrsW hslW hbW hblk hx hcg hfg hb0 n0 n1 hkey
          go_upto_region 6 with fail
          try rw [hW]
          try rw [hN]
          clear hW hN q0 q1
          refine wp_region_mixD (JustW W.drew) [(0, true), (1, true), (2, true), (3, true), (4, true), (5, true), (6, true), (7, true), (8, true), (9, false)] (by kernel_rfl) (by kernel_rfl) ?_
          simp only [pickP, List.filterMap_cons, List.filterMap_nil, List.getElem?_toArray, List.getElem?_cons_succ, List.getElem?_cons_zero, Option.map_some]
          repeat (apply mixD_first; apply Exists.intro; refine ⟨fun m => ?_, HJ.out, ?_⟩; · (go_big_quiet_step (fail); exact wpQuiet_nil rfl))
          refine mixD_forced HJ.out ?_
          go_wp2_with fail
          show mixD _ _ _ _ _ _ _
          refine mixD_nil ?_
          clear j0 jn0 jn1 hcg2 hfg2
          go_wp2_with fail
          go_roundw
          case rel => exact ⟨j + 1, by omega, by go_num, by rw [HS.out.2]; exact ⟨HS.out.1.ref.drew, HS.out.1.turn.drew⟩, HSL.out⟩
          case measure => simp [intOf]; omega
        · obtain rfl : j = m := by omega
          have ht : D.wet.take j = D.wet := List.take_of_length_le (by rw [HD.out.2.2.2]; exact Nat.le_refl _)
          rw [ht] at hrs
          have q1 := hrs.ref.box.cell 1
          have p1 := hrs.ref.box.frozen 1
          simp at q1
          have HB := Lib.hid hrs; clear hrs ht hsl
          go_wp2_with fail
          go_ret
          have hset : ∀ k, k ≠ br → (wr.setCell ⟨br, 1, none⟩ (.slice none 0 0)).heap[k]? = wr.heap[k]? := fun k hk => Below.heap_setCell wr _ _ k hk
          refine ⟨rfl, ⟨G, ⟨vS, .slice none 0 0, ⟨?_, own_same HB.out.ref.sure (fun g hg => hset g (HB.out.ref.neS hg)), World.ownsRow_nil _ _ _ _, HB.out.ref.inD, HB.out.ref.inS, fun g hg => (by cases hg), fun i hi => by simpa [World.setCell] using HB.out.ref.lt i hi⟩⟩, fun j hj => .inl hj⟩, (HD.out.2.1.trans HB.out.turn (fun j hj => .inl hj)).put _ HB.out.ref.inD _⟩
          have := HB.out.ref.box.put 1 (.slice none 0 0)
          simpa using this
end
end Go.Proofs.Ytlogdionhgabdaa
