/- A device: it goes on, and of what was not sure some is kept. -/
import Derived.Test.YtlogdionhgabdaaDevFlush
import Derived.Test.YtlogdionhgabdaaDevKeys
set_option linter.unusedVariables false
set_option linter.unusedSimpArgs false
namespace Sw
open Go Go.RowKit
def intE (x : Int) : List Value := [.int .i64 x]
theorem Turn.widen {F : Nat → Prop} {w w' : World} (h : Turn F w w') {G : Nat → Prop} (hG : ∀ i, F i → G i) : Turn G w w' := h.mono hG
end Sw
namespace Go.Proofs.Ytlogdionhgabdaa
open Go Go.RowKit
open Sw
section
variable {w w' : World} {F : Nat → Prop} {bd bs bw : Nat} {fS fW : Int → Option Value} {d : Dv}
/-- the device behind j of its places -/
def Dv.upto (d : Dv) (keep : List Int) (j : Nat) : Dv := { d with sure := restL keep d.wet ((keysD d.size d.wet).take j) 0 d.sure }
structure RstI (w : World) (F : Nat → Prop) (bd bs bw : Nat) (fW : Int → Option Value) (d : Dv) (keep : List Int) (j : Nat) (f : Int → Option Value) (wr : World) : Prop where
  box : Blk wr bd 53 #[.int .i64 d.size, .map (some bs), .map (some bw), .int .i64 d.limit, .int .i64 d.fuse, .bool d.off, .int .i64 d.ops]
  sure : MapI wr Try.prog 3 bs 8192 f
  sureIs : SureIs (Dv.upto d keep j) f
  wet : MapI wr Try.prog 3 bw 8192 fW
  wetIs : WetIs wr Try.prog 9 d.wet fW
  turn : Turn F w wr
theorem RstI.start (h : DevIn w F bd bs bw fS fW d) (keep : List Int) {w1 : World} (hb : Below w.heap.size w w1) : RstI w F bd bs bw fW d keep 0 fS w1 :=
  ⟨h.box.below hb h.box.lt, h.sure.below hb h.sure.lt, h.sureIs, h.wet.below hb h.wet.lt, h.wetIs.same (fun i v g hf hv => hb.block g (h.wetIs.lt hf hv)), (Turn.refl F w).below hb⟩
theorem upto_succ (keep : List Int) (j : Nat) (hj : j < (keysD d.size d.wet).length) : (Dv.upto d keep (j + 1)).sure = keepS keep d.wet j ((keysD d.size d.wet)[j]) (Dv.upto d keep j).sure := by
  unfold Dv.upto
  simp only
  rw [List.take_add_one, List.getElem?_eq_getElem hj]
  show restL keep d.wet (_ ++ [_]) 0 d.sure = _
  rw [restL_snoc, List.length_take, Nat.min_eq_left (Nat.le_of_lt hj), Nat.zero_add]
theorem RstI.skip {keep : List Int} {j : Nat} {f : Int → Option Value} {wr : World} (h : RstI w F bd bs bw fW d keep j f wr) (hj : j < (keysD d.size d.wet).length) (hk : kOf keep j (wetAt d.wet ((keysD d.size d.wet)[j])).length = 0) : RstI w F bd bs bw fW d keep (j + 1) f wr := by
  refine ⟨h.box, h.sure, ?_, h.wet, h.wetIs, h.turn⟩
  have e : (Dv.upto d keep (j + 1)).sure = (Dv.upto d keep j).sure := by
    rw [upto_succ keep j hj]
    unfold keepS
    rw [hk, if_neg (by omega)]
  have := h.sureIs
  unfold SureIs at *
  rw [e]
  exact this
theorem RstI.put (h0 : DevIn w F bd bs bw fS fW d) (hok : d.Ok) {keep : List Int} {j : Nat} {f : Int → Option Value} {wr w4 : World} (h : RstI w F bd bs bw fW d keep j f wr) (hj : j < (keysD d.size d.wet).length) {s : ByteArray}
    (hk : 0 < kOf keep j (wetAt d.wet ((keysD d.size d.wet)[j])).length) (hs : (wetAt d.wet ((keysD d.size d.wet)[j])).getD (kOf keep j (wetAt d.wet ((keysD d.size d.wet)[j])).length - 1) zS = s)
    (hm : MapI w4 Try.prog 3 bs 8193 (updI f ((keysD d.size d.wet)[j]) (.string s))) (hg : wr.grownBy w4 (some bs)) : RstI w F bd bs bw fW d keep (j + 1) (updI f ((keysD d.size d.wet)[j]) (.string s)) w4 := by
  have hi : (keysD d.size d.wet)[j] < d.size := by
    have := List.getElem_mem hj
    unfold keysD at this
    exact List.mem_range.1 (List.mem_filter.1 this).1
  have hlen : (Dv.upto d keep j).sure.length = d.size := by unfold Dv.upto; rw [restL_len]; exact hok.len
  have hbs : some bw ≠ some bs := fun e => h0.ne (by cases e; rfl)
  refine ⟨h.box.grown hg (fun e => h0.neS (by cases e; rfl)), hm.tight Try.underlying3 (m := 8192) (fun i _ hi' => ?_), ⟨fun i hi' => ?_, fun i hi' => ?_⟩, h.wet.kept hg hbs, h.wetIs.same (fun i v g hf hv => hg.block g (h.wetIs.lt hf hv) (fun e => (h0.neR hf hv).2.1 (by cases e; rfl))), h.turn.grown hg (fun g hg => by cases hg; exact .inl h0.inS)⟩
  · have h8 := hok.size
    unfold updI at hi'
    by_cases hx : i = (((keysD d.size d.wet)[j] : Nat) : Int)
    · omega
    · rw [if_neg hx] at hi'
      have := h.sureIs.1 i hi'
      have e : (Dv.upto d keep j).size = d.size := rfl
      omega
  · unfold updI at hi'
    show 0 ≤ i ∧ i < (d.size : Int)
    by_cases hx : i = (((keysD d.size d.wet)[j] : Nat) : Int)
    · omega
    · rw [if_neg hx] at hi'
      exact h.sureIs.1 i hi'
  · have hi2 : i < d.size := hi'
    rw [upto_succ keep j hj]
    unfold keepS updI
    rw [if_pos hk, hs]
    by_cases hx : (i : Int) = (((keysD d.size d.wet)[j] : Nat) : Int)
    · rw [if_pos hx]
      have hx' : (keysD d.size d.wet)[j] = i := by omega
      rw [hx', List.getD_eq_getElem?_getD, List.getElem?_set_self (by omega)]
      rfl
    · rw [if_neg hx]
      have hx' : (keysD d.size d.wet)[j] ≠ i := by omega
      rw [List.getD_eq_getElem?_getD, List.getElem?_set_ne hx', ← List.getD_eq_getElem?_getD]
      exact h.sureIs.2 i hi2
theorem RstI.done (h0 : DevIn w F bd bs bw fS fW d) {keep : List Int} {j : Nat} {f : Int → Option Value} {wr w5 : World} (h : RstI w F bd bs bw fW d keep j f wr) (hj : (keysD d.size d.wet).length ≤ j)
    (hm : MapI w5 Try.prog 3 bw 8192 (fun _ => none)) (hg5 : wr.grownBy w5 (some bw)) : DevIn w5 F bd bs bw f (fun _ => none) { Dv.upto d keep j with wet := [] } ∧ Turn F w w5 := by
  have hbs : some bs ≠ some bw := fun e => h0.ne (by cases e; rfl)
  refine ⟨⟨h.box.grown hg5 (fun e => h0.neW (by cases e; rfl)), h.sure.kept hg5 hbs, hm, h.sureIs, ⟨fun _ _ => rfl, fun i hi => absurd rfl hi, fun i j v v' g hf => (by cases hf)⟩, h0.ne, h0.inD, h0.inS, h0.inW, fun i v g hf => (by cases hf), fun i hi => ?_⟩, h.turn.grown hg5 (fun g hg => by cases hg; exact .inl h0.inW)⟩
  have := h0.lt i hi
  have h1 := h.turn.size
  have h2 := hg5.size
  omega
set_option maxRecDepth 100000 in
theorem devRestart_any (h : DevIn w F bd bs bw fS fW d) (hok : d.Ok) (hwl : d.wet.length ≤ 1000000) (v : Value) (keep : List Int) (hkl : keep.length ≤ maxLen) (hkb : ∀ x ∈ keep, -9223372036854775808 ≤ x ∧ x ≤ 9223372036854775807) (hkeep : ∀ W, Turn F w W → SlV W 1 intE v keep) :
    Calls Try.prog 19 #[.pointer (some ⟨bd, 0, none⟩), v] w fun e w' => e = .returned (.tuple #[]) ∧ (∃ F', DevAt w' F' bd (d.restart keep) ∧ ∀ j, F' j → F j ∨ w.heap.size ≤ j) ∧ Turn F w w' := by
  obtain ⟨A, c, rfl, hc1, hc2, _⟩ := hkeep w (Turn.refl F w)
  have b2 := h.box.cell 2
  simp at b2
  have hkb1 := Below.alloc (Below.refl w.heap.size w) (Nat.le_refl _) (.cells #[.map (some bw)] 51)
  have HS := Lib.hid (slicesSorted_any w bw fW h.wet)
  have HH := Lib.hid (And.intro h (And.intro hok (And.intro hwl (And.intro hkl (And.intro hkb hkeep))))); clear h hok hwl hkl hkb hkeep
  go_enter Try.func19, Try.ntmps19
  go_wp2_with fail
  refine (mapsKeys_any _ _).mono ?_
  rintro e _ ⟨rfl, rfl⟩
  go_wp2_with fail
  refine HS.out.mono ?_
  rintro e w1 ⟨vs, ss, rfl, hss, hmem, hrow, hb1⟩
  have hks : ss = (keysD d.size d.wet).map Int.ofNat := rising_ext hss (keysD_rising _ _) (fun i => by
    rw [hmem i, keysD_mem]
    constructor
    · rintro ⟨hI, hs⟩
      obtain ⟨u, hu⟩ := Option.isSome_iff_exists.1 hs
      have hne := (HH.out.1.wetIs.mem hu).1
      have := HH.out.2.1.key hne
      exact ⟨this.1, this.2, hne⟩
    · rintro ⟨h0, h1, hne⟩
      obtain ⟨u, hu, _⟩ := HH.out.1.wetIs.got i hne
      have := HH.out.2.1.size
      exact ⟨I64.mk (by omega) (by omega), by rw [hu]; rfl⟩)
  subst hks
  have hbw := hkb1.trans (hb1.mono (Nat.le_succ _))
  have hkl : (keysD d.size d.wet).length ≤ 8192 := by
    have := HH.out.2.1.size
    have h2 : (keysD d.size d.wet).length ≤ (List.range d.size).length := by unfold keysD; exact List.length_filter_le _ _
    rw [List.length_range] at h2
    omega
  rw [List.length_map] at hrow
  obtain ⟨n, hn⟩ : ∃ n, (keysD d.size d.wet).length = n := ⟨_, rfl⟩
  rw [hn] at hrow hkl
  obtain ⟨A2, c2, rfl, _⟩ := SlV_of_any hrow
  have HR := Lib.hid (And.intro (RstI.start HH.out.1 keep hbw) (And.intro hrow hn)); clear hrow hb1 hss hmem hbw hkb1 HS b2 hn
  go_wp2_with fail
  go_loopw [17] (fun jv wr => ∃ j f, jv = .int .i64 (j : Nat) ∧ j ≤ n ∧ RstI w F bd bs bw fW d keep j f wr ∧ wr.ownsRow (w.heap.size + 1) 3 1 (.slice A2 n c2) n (((keysD d.size d.wet).map Int.ofNat).map (Value.int .i64))) (fun jv _ => n - (intOf jv).toNat)
  case atStart => exact ⟨0, fS, rfl, Nat.zero_le _, HR.out.1, HR.out.2.1⟩
  case round =>
    obtain ⟨j, f, rfl, hjn, hri, hrow⟩ := hrel
    have HG := Lib.hid (And.intro hri (And.intro hrow HR.out.2.2)); clear hri hrow HR
    by_cases hlt : j < n
    · have hjl : j < (keysD d.size d.wet).length := by rw [HG.out.2.2]; exact hlt
      obtain ⟨g, cap, cur, hg1, _, hgb, hnc, hcm, hsz, htk⟩ := own_form HG.out.2.1 (by omega)
      cases hg1
      have hcj := HG.out.2.1.cells rfl j (.int .i64 ((keysD d.size d.wet)[j] : Nat)) (by simp [hjl])
      rw [show ((⟨g, 0, none⟩ : Addr).add j) = ⟨g, j, none⟩ by rw [add_mk, Nat.zero_add]] at hcj
      have hkj := (keysD_mem d.size d.wet ((keysD d.size d.wet)[j] : Nat)).1 (List.mem_map.2 ⟨_, List.getElem_mem hjl, rfl⟩)
      obtain ⟨u, hu, _⟩ := HG.out.1.wetIs.got _ hkj.2.2
      obtain ⟨_, hou⟩ := HG.out.1.wetIs.mem hu
      have hpos : 0 < (wetAt d.wet ((keysD d.size d.wet)[j] : Nat)).length := List.length_pos_iff.2 hkj.2.2
      obtain ⟨g2, cap2, cur2, rfl, _, hgb2, hnc2, hcm2, hsz2, htk2⟩ := own_form hou hpos
      have hI : I64 ((keysD d.size d.wet)[j] : Nat) := by have := HH.out.2.1.size; exact I64.mk (by omega) (by omega)
      have hb2 := HG.out.1.box.cell 2
      have hb1 := HG.out.1.box.cell 1
      simp at hb1 hb2
      have hkk := HH.out.2.2.2.2.2 wr HG.out.1.turn
      have HX := Lib.hid (And.intro hjl (And.intro hou (And.intro hu hkk))); clear hkj htk htk2 hou hkk
      have hwn := wetAt_len d.wet ((keysD d.size d.wet)[j] : Nat)
      have hwl := HH.out.2.2.1
      generalize hq : (wetAt d.wet ((keysD d.size d.wet)[j] : Nat)).length = q at *
      have HQ := Lib.hid hq; clear hq
      have hj1 : (j : Int) < n := by omega
      rcases Nat.eq_zero_or_pos keep.length with hk0 | hk0
      · -- nothing is kept
        have hkz : kOf keep j q = 0 := by unfold kOf; rw [if_pos hk0]
        have HK := Lib.hid (HG.out.1.skip HX.out.1 (by rw [HQ.out]; exact hkz)); clear hkz
        rw [hk0] at *
        go_wp2_with (at_lookup; refine wpList_lookI rfl _ _ 51 rfl 3 40 Try.underlying3 Try.underlying51 (zeroSl _) bw 8192 fW rfl HG.out.1.wet _ rfl hI ?_; rw [HX.out.2.2.1])
        go_roundw
        case rel => exact ⟨j + 1, f, by go_num, by omega, HK.out, HG.out.2.1⟩
        case measure => simp [intOf]; omega
      · obtain ⟨A', c', heq, _, _, hsl⟩ := HX.out.2.2.2
        cases heq
        obtain ⟨kb, ko, rfl, _, hkc⟩ := hsl hk0
        obtain ⟨r, hr⟩ : ∃ r, j % keep.length = r := ⟨_, rfl⟩
        have hrl : r < keep.length := by rw [← hr]; exact Nat.mod_lt _ hk0
        have hkr := hkc r hrl 0 (by omega)
        simp only [intE, List.getElem?_cons_zero, Nat.mul_one, Nat.add_zero] at hkr
        obtain ⟨kx, hkx⟩ : ∃ kx, keep[r] = kx := ⟨_, rfl⟩
        rw [hkx] at hkr
        have hkxb := HH.out.2.2.2.2.1 kx (by rw [← hkx]; exact List.getElem_mem hrl)
        have hkp : (0 : Int) < keep.length := by omega
        have hke : kOf keep j q = (max 0 kx).toNat % (q + 1) := by
          unfold kOf
          rw [if_neg (by omega), hr, List.getD_eq_getElem?_getD, List.getElem?_eq_getElem hrl, hkx]
          rfl
        have hki : max 0 kx % ((q : Int) + 1) = ((kOf keep j q : Nat) : Int) := by
          rw [hke, Int.natCast_emod]
          have : max 0 kx = (((max 0 kx).toNat : Nat) : Int) := by omega
          rw [← this]
          rfl
        have hkq : kOf keep j q ≤ q := by rw [hke]; have := Nat.mod_lt (max 0 kx).toNat (show 0 < q + 1 by omega); omega
        clear hke hsl hkc
        rcases Nat.eq_zero_or_pos (kOf keep j q) with hkz | hkz
        · have HK := Lib.hid (HG.out.1.skip HX.out.1 (by rw [HQ.out]; exact hkz))
          rw [hkz] at hki
          clear hkz hkx
          go_wp2_with (at_lookup; refine wpList_lookI rfl _ _ 51 rfl 3 40 Try.underlying3 Try.underlying51 (zeroSl _) bw 8192 fW rfl HG.out.1.wet _ rfl hI ?_; rw [HX.out.2.2.1])
          go_roundw
          case rel => exact ⟨j + 1, f, by go_num, by omega, HK.out, HG.out.2.1⟩
          case measure => simp [intOf]; omega
        · obtain ⟨k, hk⟩ : ∃ k, kOf keep j q = k := ⟨_, rfl⟩
          have hcl := HX.out.2.1.cells rfl (k - 1) (.string ((wetAt d.wet ((keysD d.size d.wet)[j] : Nat)).getD (k - 1) zS)) (by
            have hl : k - 1 < (wetAt d.wet ((keysD d.size d.wet)[j] : Nat)).length := by rw [HQ.out]; omega
            rw [List.getElem?_map, List.getElem?_eq_getElem hl, List.getD_eq_getElem?_getD, List.getElem?_eq_getElem hl]
            rfl)
          rw [show ((⟨g2, 0, none⟩ : Addr).add (k - 1)) = ⟨g2, k - 1, none⟩ by rw [add_mk, Nat.zero_add]] at hcl
          obtain ⟨s, hs⟩ : ∃ s, (wetAt d.wet ((keysD d.size d.wet)[j] : Nat)).getD (k - 1) zS = s := ⟨_, rfl⟩
          rw [hs] at hcl
          have HS := Lib.hid (And.intro hs hk); clear hs
          rw [hk] at hki hkz hkq
          clear hk hkx
          have hk1 : (0 : Int) < k := by omega
          have ww : IntKind.i64.wrap ((k : Int) - 1) = k - 1 := IntWalk.i64_in _ (by omega)
          have hn1 : ((k : Int) - 1).toNat = k - 1 := by omega
          have j1 : ∀ m : Held (JustW wr.drew), (HeldW m).cell? ⟨bd, 1, none⟩ = some (.map (some bs)) := fun m => by rw [JustW.out m]; exact hb1
          have jc : ∀ m : Held (JustW wr.drew), (HeldW m).cell? ⟨g2, k - 1, none⟩ = some (.string s) := fun m => by rw [JustW.out m]; exact hcl
          have HJ := Lib.hid (show JustW wr.drew wr.drew from rfl)
          go_wp2_with (at_lookup; refine wpList_lookI rfl _ _ 51 rfl 3 40 Try.underlying3 Try.underlying51 (zeroSl _) bw 8192 fW rfl HG.out.1.wet _ rfl hI ?_; rw [HX.out.2.2.1])
          refine wp_region_mixD (JustW wr.drew) [(0, true), (1, true), (2, true), (3, true), (4, true), (5, true), (6, true), (7, true), (8, true), (9, true), (10, false)] (by kernel_rfl) (by kernel_rfl) ?_
          simp only [pickP, List.filterMap_cons, List.filterMap_nil, List.getElem?_toArray, List.getElem?_cons_succ, List.getElem?_cons_zero, Option.map_some]
          repeat (apply mixD_first; apply Exists.intro; refine ⟨fun m => ?_, HJ.out, ?_⟩; · (go_big_quiet_step (fail); exact wpQuiet_nil rfl))
          refine mixD_forced HJ.out ?_
          go_wp2_with (at_mapUpdate; refine wpList_storeI rfl _ _ _ 50 rfl 3 9 Try.underlying3 Try.underlying50 bs 8192 _ rfl HG.out.1.sure.drew (by unfold maxLen; omega) _ rfl hI _ rfl ?_; intro w4 hm4 hg4)
          have HF := Lib.hid (RstI.put HH.out.1 HH.out.2.1 HG.out.1 HX.out.1 (by rw [HQ.out, HS.out.2]; exact hkz) (by rw [HQ.out, HS.out.2]; exact HS.out.1) hm4 (grown_of_drew hg4))
          have HO := Lib.hid (own_same (w' := w4) HG.out.2.1 (fun g' hg' => by cases hg'; exact (grown_of_drew hg4).block g hgb.lt (fun e => by cases e; exact map_cells HG.out.1.sure hgb)))
          clear hm4 hg4 j1 jc
          show mixD _ _ _ _ _ _ _
          refine mixD_nil ?_
          go_wp2_with fail
          go_roundw
          case rel => exact ⟨j + 1, _, by go_num, by omega, HF.out, HO.out⟩
          case measure => simp [intOf]; omega
    · obtain rfl : j = n := by omega
      have hb2 := HG.out.1.box.cell 2
      simp at hb2
      have HN := Lib.hid (show (keysD d.size d.wet).length ≤ j from Nat.le_of_eq HG.out.2.2)
      go_wp2_with (with_reducible refine wpList_wipeI rfl _ 51 rfl 3 40 Try.underlying51 bw 8192 fW rfl HG.out.1.wet ?_; intro w5 hm5 hg5; have HD := Lib.hid (RstI.done HH.out.1 HG.out.1 HN.out hm5 hg5); clear hm5 hg5; have q5 := HD.out.1.box.cell 5; have q4 := HD.out.1.box.cell 4; have p5 := HD.out.1.box.frozen 5; have p4 := HD.out.1.box.frozen 4; simp at q5 q4)
      go_end0
      have hE : Dv.restart d keep = { { { Dv.upto d keep j with wet := [] } with off := false } with fuse := -1 } := by
        unfold Dv.restart Dv.upto
        rw [List.take_of_length_le HN.out]
      have h1 := HD.out.1.cell 5 (.bool false) { { Dv.upto d keep j with wet := [] } with off := false } (by simp) rfl rfl rfl
      have h2 := h1.cell 4 (.int .i64 (-1)) { { { Dv.upto d keep j with wet := [] } with off := false } with fuse := -1 } (by simp) rfl rfl rfl
      rw [hE]
      exact ⟨rfl, ⟨F, ⟨bs, bw, _, _, h2⟩, fun j hj => .inl hj⟩, (HD.out.2.put _ HH.out.1.inD _).put _ HH.out.1.inD _⟩
end
end Go.Proofs.Ytlogdionhgabdaa
