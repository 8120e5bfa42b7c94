/- sorted.Filter over int, string, as it is called with swingle/swinglelaw15.SortedJoins$1. -/
import Derived.Test.YtpnkgldpmalklaaSrtMapIS
import Derived.Test.YtpnkgldpmalklaaSlDelFuncIS
import Derived.Test.YtpnkgldpmalklaaJoinPlain
set_option linter.unusedVariables false
set_option linter.unusedSimpArgs false
namespace Go.Proofs.Ytpnkgldpmalklaa
open Go Go.RowKit Go.Shelf
open Sw
abbrev wantFIS (gw : Nat) : Value := .func (.func 31) #[] #[.pointer (some ⟨gw, 0, none⟩)]
set_option maxRecDepth 100000 in
set_option maxHeartbeats 2000000 in
theorem srtFilter1IS_any (p : Int × ByteArray → Bool) (w : World) (g3 gw : Nat) (e : Int × ByteArray) (hg : Blk w g3 33 #[wantFIS gw])
    (hw : ∀ W, Below w.heap.size w W → Calls Try.prog 31 #[Value.int .i64 e.1, (Value.string) e.2, .pointer (some ⟨gw, 0, none⟩)] W fun r w' => r = .returned (.bool (p e)) ∧ Below W.heap.size W w') :
    Calls Try.prog 62 #[.agg (eCIS e).toArray, .pointer (some ⟨g3, 0, none⟩)] w fun r w' => r = .returned (.bool (!p e)) ∧ Below w.heap.size w w' := by
  have hb1 := (Below.refl w.heap.size w).alloc (Nat.le_refl _) (.cells (eCIS e).toArray 100)
  have HW := Lib.hid (hw _ hb1)
  have hg1 := (hg.below hb1 hg.lt).cell 0
  simp at hg1
  have HB := Lib.hid hb1; clear hb1 hw hg
  generalize p e = pv at *
  unfold eCIS at *
  go_enter Try.func62, Try.ntmps62
  go_wp2_with fail
  refine HW.out.mono ?_
  rintro e w2 ⟨rfl, hb2⟩
  have HB2 := Lib.hid (HB.out.trans (hb2.mono HB.out.size)); clear hb2
  go_wp2_with fail
  go_ret
  exact ⟨rfl, HB2.out⟩
set_option maxRecDepth 100000 in
set_option maxHeartbeats 4000000 in
theorem srtFilterIS_any (p : Int × ByteArray → Bool) (w : World) (bm gw : Nat) (xs : List (Int × ByteArray)) (h : SMapIS w bm xs) (hn : xs.length ≤ 100000)
    (hw : ∀ W e, e ∈ xs → KeepP (fun g => g < w.heap.size) w W → Calls Try.prog 31 #[Value.int .i64 e.1, (Value.string) e.2, .pointer (some ⟨gw, 0, none⟩)] W fun r w' => r = .returned (.bool (p e)) ∧ Below W.heap.size W w') :
    Calls Try.prog 30 #[.pointer (some ⟨bm, 0, none⟩), wantFIS gw] w fun e w' => ∃ b2, e = .returned (.pointer (some ⟨b2, 0, none⟩)) ∧ SMapIS w' b2 (xs.filter p) ∧ w.heap.size ≤ b2 ∧ Below w.heap.size w w' := by
  have hb1 := (Below.refl w.heap.size w).alloc (Nat.le_refl _) (.cells #[wantFIS gw] 33)
  have hg3 := Blk.new w 33 #[wantFIS gw]
  have hm1 := h.below hb1
  have HC := Lib.hid (srtCloneIS_any _ bm xs hm1)
  have H1 := Lib.hid (And.intro hm1 (And.intro hb1 hg3)); clear hm1 hb1 hg3
  have hup := h.up
  have hok := h.ok
  have HUP := Lib.hid (And.intro hup hok); clear hup hok h
  go_enter Try.func30, Try.ntmps30
  go_wp2_with fail
  refine HC.out.mono ?_
  rintro e w2 ⟨b2, rfl, hm2, hb2, hbw2⟩
  have hb2lt : b2 < w2.heap.size := by obtain ⟨_, hq, _⟩ := hm2.row; exact hq.lt
  have hma2 := H1.out.1.below hbw2
  obtain ⟨v, hB, ho⟩ := hma2.row
  obtain ⟨A, c, rfl, _, _, _⟩ := SlV_of_any ho
  have hv1 : w2.cell? ⟨bm, 1, none⟩ = some (.slice A xs.length c) := hB.cell 1
  have HCL := Lib.hid (slCloneIS_any eCIS eCIS_len eCIS_one w2 _ xs (SlV.of_own ho eCIS_len (by decide)) (by omega))
  have H2 := Lib.hid (And.intro hm2 (And.intro hbw2 (And.intro (H1.out.2.1.trans (hbw2.mono H1.out.2.1.size)) (H1.out.2.2.below hbw2 H1.out.2.2.lt)))); clear hm2 hbw2 hma2 hB ho HC
  go_wp2_with fail
  refine HCL.out.mono ?_
  rintro e w3 ⟨v3, rfl, ho3, hb3⟩
  have hg3 : Blk w3 w.heap.size 33 #[wantFIS gw] := H2.out.2.2.2.below hb3 H2.out.2.2.2.lt
  have hbw3 := H2.out.2.2.1.trans (hb3.mono H2.out.2.2.1.size)
  have hlt3 := hg3.lt
  have hlt2 := H2.out.2.2.2.lt
  have HD := Lib.hid (slDelFuncIS_any (fun e => !p e) (fun W => Blk W w.heap.size 33 #[wantFIS gw] ∧ KeepP (fun g => g < w.heap.size) w W) w3 w2.heap.size v3 xs ho3
    (fun W W' hh hg => ⟨hh.1.grown hg (fun e => by have := (ho3.lt _ e.symm).1; omega), hh.2.trans (KeepP.grown hg (fun g hgk => ⟨by have := hh.2.size; omega, fun e => by have := (ho3.lt _ e.symm).1; omega⟩))⟩)
    w.heap.size (by omega) ⟨hg3, KeepP.below hbw3 (fun g hg => hg)⟩
    (fun W x hx hh => srtFilter1IS_any p W w.heap.size gw x hh.1 (fun W' hb => hw W' x hx (hh.2.trans (KeepP.below hb (fun g hg => by have := hh.2.size; omega))))))
  have hbm2 := H2.out.1.below hb3
  have H3 := Lib.hid (And.intro hbm2 (And.intro hbw3 ho3)); clear hbm2 hbw3 hg3 hb3 H2 HCL
  have hrow := fun k (hk : v3.ownBlock = some k) => (H3.out.2.2.lt k hk).1
  generalize v3.ownBlock = r3 at *
  go_wp2_with fail
  refine HD.out.mono ?_
  rintro e w4 ⟨v4, rfl, ho4, hg4, hr4⟩
  obtain ⟨vb, hB3, _⟩ := H3.out.1.row
  have hB4 := hB3.grown hg4 (fun e => by have := hrow _ e.symm; omega)
  have hfp : (xs.filter fun x => !(fun e => !p e) x) = xs.filter p := by congr 1; funext x; simp
  rw [hfp] at ho4
  have hb4 := H3.out.2.1.grown hg4 H3.out.2.1.size (fun k hk => by have := hrow k hk; omega)
  obtain ⟨A4, c4, rfl, _, _, _⟩ := SlV_of_any ho4
  have f1 := hB4.frozen 1
  have c1 : w4.cell? ⟨b2, 1, none⟩ = some vb := hB4.cell 1
  have hwb2 : w.heap.size ≤ b2 := by simp at hb2; omega
  have HF := Lib.hid (And.intro (⟨⟨_, hB4.put 1 _, own_wide (own_grown_typ ho4 (grown_put (grown_refl w4 (some b2)) 1 _) hB4 (by decide)) (Nat.zero_le _)⟩, HUP.out.1.filter _, fun e he => HUP.out.2 e (List.mem_filter.1 he).1⟩ : SMapIS (w4.setCell ⟨b2, 1, none⟩ (.slice A4 (xs.filter p).length c4)) b2 (xs.filter p)) (hb4.setCell (p := ⟨b2, 1, none⟩) hwb2 (.slice A4 (xs.filter p).length c4)))
  clear hB4 hb4 ho4 hg4 hB3 HD hfp hr4 hb2
  generalize (xs.filter p).length = m4 at *
  go_wp2_with fail
  go_ret
  exact ⟨b2, rfl, HF.out.1, hwb2, HF.out.2⟩
end Go.Proofs.Ytpnkgldpmalklaa
