/- Several texts, joined for the limit of sixty files; each one opens with its own comment. -/
import Derived.Test.YtcpmhjealiajpaaGreatDoorJoin20
import Derived.Deep.CutBlock
import Derived.Test.YtcpmhjealiajpaaGreatDoorJoin17
import Derived.Test.YtcpmhjealiajpaaGreatDoorJoin1
/- The main walk of DirfsPlays. -/
set_option linter.unusedVariables false
set_option linter.unusedSimpArgs false
namespace Go.Proofs.YtcpmhjealiajpaaGreatDoor
open Go Go.RowKit
open Sw
set_option maxRecDepth 100000 in
set_option maxHeartbeats 16000000 in
theorem dirfsPlays_main (w : World) (A : Option Addr) (n c : Nat) (l : List St18) (room : Int) (hl : l.length = n) (hnc : n ≤ c) (hcm : c ≤ maxLen) (hsl : SlOf w 8 st18C A l) (hin : ∀ s ∈ l, St18In s) :
    Calls Tryz.prog 5 #[.int .i64 room, .slice A n c] w fun e w' => e = .returned (.bool true) ∧ Below w.heap.size w w' := by
  have hslv : SlV w 8 st18C (.slice A n c) l := ⟨A, c, by rw [hl], by rw [hl]; exact hnc, hcm, hsl⟩
  unfold maxLen at hcm
  have HLT := Lib.hid (light18_any w _ l hslv hin)
  have HLV := Lib.hid (fun W => lives18_any W)
  have HIN := Lib.hid (And.intro hl (And.intro hin hsl)); clear hslv hl hin hsl
  go_enter Tryz.func5, Tryz.ntmps5
  go_wp2_with fail
  refine HLT.out.mono ?_
  rintro e w1 ⟨R, rfl, hR, hb1⟩
  have HR := Lib.hid hR
  have HBB := Lib.hid hb1; clear hR hb1 HLT
  cases R with
  | false =>
    go_wp2_with fail
    refine (HLV.out _).mono ?_
    rintro e w9 ⟨rfl, hb9⟩
    have HZ := Lib.hid (HBB.out.trans (hb9.mono HBB.out.size)); clear hb9
    go_wp2_with fail
    go_ret
    exact ⟨rfl, HZ.out⟩
  | true =>
    obtain ⟨hl25, hsm⟩ := HR.out rfl
    have hn25 : n ≤ 25 := by rw [HIN.out.1] at hl25; exact hl25
    have HSM := Lib.hid hsm
    have HNW := Lib.hid (dirNew_any w1 room)
    clear hl25 hsm HR
    go_wp2_with fail
    refine HNW.out.mono ?_
    rintro e w3 ⟨bd, bt, bm, rfl, hd3, hbd3, hb3⟩
    have hbd : w.heap.size ≤ bd := Nat.le_trans HBB.out.size hbd3
    have ho3 := HBB.out.trans (hb3.mono HBB.out.size)
    have hal := (Below.refl w3.heap.size w3).alloc (Nat.le_refl _) (.cells #[.slice none 0 0, .int .i64 room, .int .i64 (-1), .bool false, .int .i64 0] 58)
    have hbx := Blk.new w3 58 #[.slice none 0 0, .int .i64 room, .int .i64 (-1), .bool false, .int .i64 0]
    obtain ⟨W3, hW3⟩ : ∃ W3, w3.alloc (.cells #[.slice none 0 0, .int .i64 room, .int .i64 (-1), .bool false, .int .i64 0] 58) = W3 := ⟨_, rfl⟩
    obtain ⟨br, hbrn⟩ : ∃ br, w3.heap.size = br := ⟨_, rfl⟩
    rw [hW3] at hal hbx
    rw [hbrn] at hbx
    have hbr : w.heap.size ≤ br := by rw [← hbrn]; exact ho3.size
    have HW3 := Lib.hid (And.intro hW3 hbrn)
    have H3 := Lib.hid (show Two18 w w.heap.size bd br ⟨room, -1, 0, false, []⟩ W3 from ⟨⟨_, _, hd3.below hal⟩, ⟨none, 0, 0, ⟨hbx, World.ownsRow_nil _ _ _ _⟩⟩, ho3.trans (hal.mono ho3.size)⟩); clear hd3 hbd3 hb3 HNW HBB hal hbx hW3 hbrn ho3
    go_wp2_with fail
    rw [HW3.out.1, HW3.out.2]
    clear HW3
    go_loopw [22] (fun iv wr => ∃ (i : Nat) (s : DS), i ≤ n ∧ iv = .int .i64 i ∧ Two18 w w.heap.size bd br s wr ∧ Gd room i s) (fun iv _ => n - (intOf iv).toNat)
    case atStart => exact ⟨0, _, Nat.zero_le _, rfl, H3.out, ⟨rfl, RowOk.nil _, fun h => by have e : bytesT [] = 0 := rfl; rw [e]; omega, ⟨by simp, by simp, by simp, by simp⟩⟩⟩
    case round =>
      obtain ⟨i, s1, hi, rfl, ht, hgd⟩ := hrel
      clear H3
      by_cases hlt : i < n
      · have hiL : i < l.length := by rw [HIN.out.1]; exact hlt
        obtain ⟨b, off, rfl, hbb, hcs⟩ := (HIN.out.2.2.below ht.old (Nat.le_refl _)) (by omega)
        have c0 := hcs i hiL 0 (by omega)
        have c1 := hcs i hiL 1 (by omega)
        have c2 := hcs i hiL 2 (by omega)
        have c3' := hcs i hiL 3 (by omega)
        have c4 := hcs i hiL 4 (by omega)
        have c5 := hcs i hiL 5 (by omega)
        have c6 := hcs i hiL 6 (by omega)
        have c7 := hcs i hiL 7 (by omega)
        simp only [st18C, List.getElem?_cons_succ, List.getElem?_cons_zero, Nat.add_zero] at c0 c1 c2 c3' c4 c5 c6 c7
        clear hcs
        have hi1 : (i : Int) < n := by omega
        obtain ⟨hp100, hq100, hd500⟩ := HSM.out l[i] (List.getElem_mem hiL)
        have hsin := HIN.out.2.1 l[i] (List.getElem_mem hiL)
        obtain ⟨⟨kd, p, q, ⟨nk, nm, nt, nd⟩, sn⟩, hx⟩ : ∃ x, l[i] = x := ⟨_, rfl⟩
        simp only [hx] at c0 c1 c2 c3' c4 c5 c6 c7 hp100 hq100 hd500 hsin
        clear hx
        have hni := hsin.2.2.2.1
        obtain ⟨hk0, hk1⟩ := hsin.1
        have hsn := hsin.2.2.2.2
        simp only at hni hk0 hk1 hsn
        obtain ⟨hsn0, hsn1⟩ := hsn
        have hba := (Below.refl wr.heap.size wr).alloc (Nat.le_refl _) (.cells #[.int .u64 kd, .string p, .string q, .int .i64 nk, .int .i64 nm, .int .u32 nt, .string nd, .int .i64 sn] 60)
        have hbN := Blk.new wr 60 #[.int .u64 kd, .string p, .string q, .int .i64 nk, .int .i64 nm, .int .u32 nt, .string nd, .int .i64 sn]
        obtain ⟨W1, hW1⟩ : ∃ W1, wr.alloc (.cells #[.int .u64 kd, .string p, .string q, .int .i64 nk, .int .i64 nm, .int .u32 nt, .string nd, .int .i64 sn] 60) = W1 := ⟨_, rfl⟩
        obtain ⟨N, hN⟩ : ∃ N, wr.heap.size = N := ⟨_, rfl⟩
        rw [hW1] at hba hbN
        rw [hN] at hbN
        have HW1 := Lib.hid (And.intro hW1 hN)
        have H1 := Lib.hid (And.intro (ht.below ht.size hba) hbN); clear hba hbN hW1 hN ht
        have HG1 := Lib.hid hgd; clear hgd
        obtain ⟨m, hm, hm7⟩ : ∃ m : Int, kd % 7 = m ∧ (m = 0 ∨ m = 1 ∨ m = 2 ∨ m = 3 ∨ m = 4 ∨ m = 5 ∨ m = 6) := ⟨kd % 7, rfl, by omega⟩
        go_upto_block 2 with fail
        rw [HW1.out.1, HW1.out.2]
        clear HW1 c0 c1 c2 c3' c4 c5 c6 c7
        go_cut [9, 10] from 23 to 110 (fun a b wx => ∃ (r : Int) (s2 : DS), a = .int .i64 r ∧ b = .int .i64 r ∧ Two18 w w.heap.size bd br s2 wx ∧ Gd room (i + 1) s2 ∧ Blk wx N 60 #[.int .u64 kd, .string p, .string q, .int .i64 nk, .int .i64 nm, .int .u32 nt, .string nd, .int .i64 sn])
        case first =>
          rcases hm7 with rfl | rfl | rfl | rfl | rfl | rfl | rfl
          · -- kind 0
            obtain ⟨⟨bt, bm, hd⟩, ⟨A, nA, cA, hr⟩, ho⟩ := H1.out.1
            have HD := Lib.hid (And.intro (hd.below ((Below.refl _ W1).drew)) (And.intro (hr.below ((Below.refl _ W1).drew)) (And.intro (ho.trans (((Below.refl _ W1).drew).mono ho.size)) (H1.out.2.below ((Below.refl _ W1).drew) H1.out.2.lt)))); clear hd hr ho H1
            have HC0 := Lib.hid HD.out.2.2.2
            have hbp : bytesT (putT s1.xs p ⟨nk, nm, nt, nd⟩) ≤ 1000000000 := by have := (HG1.out.row.put p hni hd500).bytes; omega
            have HST := Lib.hid (dirPut_any W1.drew bd bt bm s1 i p ⟨nk, nm, nt, nd⟩ HD.out.1 HG1.out.ok (by omega) (by have := HG1.out.row.len; omega) (by omega) (by have := parent_small p; omega) hni hbp)
            have HRF0 := Lib.hid (fun (w3 : World) (h : RefD w3 w.heap.size br (.slice A nA cA) s1) (hB : w.heap.size ≤ w3.heap.size) => rput_any w3 w.heap.size br (.slice A nA cA) s1 i p ⟨nk, nm, nt, nd⟩ h hB HG1.out.ok (by omega) (HG1.out.row.more (by omega)) (by omega) hni hd500)
            have hrm1 := HG1.out.rm
            simp only [hrm1] at HST HRF0
            clear hrm1
            simp only [Nd.c] at HST HRF0
            have HG2 := Lib.hid (HG1.out.put p hni hd500)
            generalize stepD s1 (putW room s1.xs p ⟨nk, nm, nt, nd⟩) (putT s1.xs p ⟨nk, nm, nt, nd⟩) = RR at *
            obtain ⟨r, s2⟩ := RR
            simp only at HST HRF0 HG2
            have j1 : ∀ m : Held (fun W => Blk W N 60 #[.int .u64 kd, .string p, .string q, .int .i64 nk, .int .i64 nm, .int .u32 nt, .string nd, .int .i64 sn]), (HeldW m).cell? ⟨N, 1, none⟩ = some (.string p) := fun m => (HeldW_spec m).cell 1
            have j3 : ∀ m : Held (fun W => Blk W N 60 #[.int .u64 kd, .string p, .string q, .int .i64 nk, .int .i64 nm, .int .u32 nt, .string nd, .int .i64 sn]), (HeldW m).cell? ⟨N, 3, none⟩ = some (.int .i64 nk) := fun m => (HeldW_spec m).cell 3
            have j4 : ∀ m : Held (fun W => Blk W N 60 #[.int .u64 kd, .string p, .string q, .int .i64 nk, .int .i64 nm, .int .u32 nt, .string nd, .int .i64 sn]), (HeldW m).cell? ⟨N, 4, none⟩ = some (.int .i64 nm) := fun m => (HeldW_spec m).cell 4
            have j5 : ∀ m : Held (fun W => Blk W N 60 #[.int .u64 kd, .string p, .string q, .int .i64 nk, .int .i64 nm, .int .u32 nt, .string nd, .int .i64 sn]), (HeldW m).cell? ⟨N, 5, none⟩ = some (.int .u32 nt) := fun m => (HeldW_spec m).cell 5
            have j6 : ∀ m : Held (fun W => Blk W N 60 #[.int .u64 kd, .string p, .string q, .int .i64 nk, .int .i64 nm, .int .u32 nt, .string nd, .int .i64 sn]), (HeldW m).cell? ⟨N, 6, none⟩ = some (.string nd) := fun m => (HeldW_spec m).cell 6
            clear HG1
            go_wp2_with fail
            refine wp_region_mix (fun W => Blk W N 60 #[.int .u64 kd, .string p, .string q, .int .i64 nk, .int .i64 nm, .int .u32 nt, .string nd, .int .i64 sn]) [(0, true), (1, true), (2, true), (3, true), (4, true), (6, true), (7, true), (8, true), (9, true), (10, true), (5, false), (11, false), (12, true), (13, true)] (by kernel_rfl) (by kernel_rfl) ?_
            simp only [pickP, List.filterMap_cons, List.filterMap_nil, List.getElem?_toArray, List.getElem?_cons_succ, List.getElem?_cons_zero, Option.map_some]
            repeat (apply mix_first; apply Exists.intro; refine ⟨fun m => ?_, HC0.out, ?_⟩; · (go_big_quiet_step (fail); exact wpQuiet_nil rfl))
            refine mix_forced HC0.out ?_
            go_wp2_with fail
            refine HST.out.mono ?_
            rintro e w3 ⟨rfl, ⟨bt3, bm3, hd3⟩, hg3⟩
            have hr3 := HD.out.2.1.far HD.out.1.box (by decide) (by decide) hg3
            have hN3 := HD.out.2.2.2.grown hg3 (by simpa using Blk.other HD.out.2.2.2 HD.out.1.box (by decide))
            have ho3 := below_grown HD.out.2.2.1 hg3 hbd HD.out.2.2.1.size
            have H3 := Lib.hid (And.intro hd3 (And.intro hr3 (And.intro ho3 hN3))); clear hd3 hr3 ho3 hN3 hg3 HST HD
            have HRF := Lib.hid (HRF0.out w3 H3.out.2.1 H3.out.2.2.1.size); clear HRF0
            have HC3 := Lib.hid H3.out.2.2.2; clear HC0
            go_wp2_with fail
            show mixC _ _ _ _ _ _ _
            repeat (apply mix_first; apply Exists.intro; refine ⟨fun m => ?_, HC3.out, ?_⟩; · (go_big_quiet_step (fail); exact wpQuiet_nil rfl))
            refine mix_forced HC3.out ?_
            go_wp2_with fail
            refine HRF.out.mono ?_
            rintro e w4 ⟨rfl, ⟨A4, n4, c4, hr4⟩, hg4⟩
            have hd4 := H3.out.1.far H3.out.2.1.box (by decide) (by decide) (by decide) (by decide) hg4
            have hN4 := H3.out.2.2.2.grown hg4 (by simpa using Blk.other H3.out.2.2.2 H3.out.2.1.box (by decide))
            have ho4 := below_grown H3.out.2.2.1 hg4 hbr H3.out.2.2.1.size
            have H4 := Lib.hid (And.intro (show Two18 w w.heap.size bd br _ w4 from ⟨⟨_, _, hd4⟩, ⟨_, _, _, hr4⟩, ho4⟩) hN4); clear hd4 hr4 ho4 hN4 hg4 HRF H3
            have HC4 := Lib.hid H4.out.2; clear HC3
            go_wp2_with fail
            show mixC _ _ _ _ _ _ _
            repeat (apply mix_first; apply Exists.intro; refine ⟨fun m => ?_, HC4.out, ?_⟩; · (go_big_quiet_step (fail); exact wpQuiet_nil rfl))
            refine mix_nil HC4.out ?_
            clear j1 j3 j4 j5 j6 HC4
            go_wp2_with fail
            go_meet
            case rel => exact ⟨r, s2, rfl, rfl, H4.out.1, HG2.out, H4.out.2⟩
          · -- kind 1
            obtain ⟨⟨bt, bm, hd⟩, ⟨A, nA, cA, hr⟩, ho⟩ := H1.out.1
            have HD := Lib.hid (And.intro (hd.below ((Below.refl _ W1).drew)) (And.intro (hr.below ((Below.refl _ W1).drew)) (And.intro (ho.trans (((Below.refl _ W1).drew).mono ho.size)) (H1.out.2.below ((Below.refl _ W1).drew) H1.out.2.lt)))); clear hd hr ho H1
            have HC0 := Lib.hid HD.out.2.2.2
            have HST := Lib.hid (dirRemove_any W1.drew bd bt bm s1 i p HD.out.1 HG1.out.ok (by omega) (by have := HG1.out.row.len; omega) (by omega))
            have HRF0 := Lib.hid (fun (w3 : World) (h : RefD w3 w.heap.size br (.slice A nA cA) s1) (hB : w.heap.size ≤ w3.heap.size) => rremove_any w3 w.heap.size br (.slice A nA cA) s1 i p h hB HG1.out.ok (by omega) (HG1.out.row.more (by omega)))
            have HG2 := Lib.hid (HG1.out.remove p)
            generalize stepD s1 (whyDrop s1.xs p) (dropT s1.xs p) = RR at *
            obtain ⟨r, s2⟩ := RR
            simp only at HST HRF0 HG2
            have j1 : ∀ m : Held (fun W => Blk W N 60 #[.int .u64 kd, .string p, .string q, .int .i64 nk, .int .i64 nm, .int .u32 nt, .string nd, .int .i64 sn]), (HeldW m).cell? ⟨N, 1, none⟩ = some (.string p) := fun m => (HeldW_spec m).cell 1
            clear HG1
            go_wp2_with fail
            refine wp_region_mix (fun W => Blk W N 60 #[.int .u64 kd, .string p, .string q, .int .i64 nk, .int .i64 nm, .int .u32 nt, .string nd, .int .i64 sn]) [(0, true), (1, true), (2, true), (4, true), (5, true), (6, true), (3, false), (7, false), (8, true), (9, true)] (by kernel_rfl) (by kernel_rfl) ?_
            simp only [pickP, List.filterMap_cons, List.filterMap_nil, List.getElem?_toArray, List.getElem?_cons_succ, List.getElem?_cons_zero, Option.map_some]
            repeat (apply mix_first; apply Exists.intro; refine ⟨fun m => ?_, HC0.out, ?_⟩; · (go_big_quiet_step (fail); exact wpQuiet_nil rfl))
            refine mix_forced HC0.out ?_
            go_wp2_with fail
            refine HST.out.mono ?_
            rintro e w3 ⟨rfl, ⟨bt3, bm3, hd3⟩, hg3⟩
            have hr3 := HD.out.2.1.far HD.out.1.box (by decide) (by decide) hg3
            have hN3 := HD.out.2.2.2.grown hg3 (by simpa using Blk.other HD.out.2.2.2 HD.out.1.box (by decide))
            have ho3 := below_grown HD.out.2.2.1 hg3 hbd HD.out.2.2.1.size
            have H3 := Lib.hid (And.intro hd3 (And.intro hr3 (And.intro ho3 hN3))); clear hd3 hr3 ho3 hN3 hg3 HST HD
            have HRF := Lib.hid (HRF0.out w3 H3.out.2.1 H3.out.2.2.1.size); clear HRF0
            have HC3 := Lib.hid H3.out.2.2.2; clear HC0
            go_wp2_with fail
            show mixC _ _ _ _ _ _ _
            repeat (apply mix_first; apply Exists.intro; refine ⟨fun m => ?_, HC3.out, ?_⟩; · (go_big_quiet_step (fail); exact wpQuiet_nil rfl))
            refine mix_forced HC3.out ?_
            go_wp2_with fail
            refine HRF.out.mono ?_
            rintro e w4 ⟨rfl, ⟨A4, n4, c4, hr4⟩, hg4⟩
            have hd4 := H3.out.1.far H3.out.2.1.box (by decide) (by decide) (by decide) (by decide) hg4
            have hN4 := H3.out.2.2.2.grown hg4 (by simpa using Blk.other H3.out.2.2.2 H3.out.2.1.box (by decide))
            have ho4 := below_grown H3.out.2.2.1 hg4 hbr H3.out.2.2.1.size
            have H4 := Lib.hid (And.intro (show Two18 w w.heap.size bd br _ w4 from ⟨⟨_, _, hd4⟩, ⟨_, _, _, hr4⟩, ho4⟩) hN4); clear hd4 hr4 ho4 hN4 hg4 HRF H3
            have HC4 := Lib.hid H4.out.2; clear HC3
            go_wp2_with fail
            show mixC _ _ _ _ _ _ _
            repeat (apply mix_first; apply Exists.intro; refine ⟨fun m => ?_, HC4.out, ?_⟩; · (go_big_quiet_step (fail); exact wpQuiet_nil rfl))
            refine mix_nil HC4.out ?_
            clear j1 HC4
            go_wp2_with fail
            go_meet
            case rel => exact ⟨r, s2, rfl, rfl, H4.out.1, HG2.out, H4.out.2⟩
          · -- kind 2
            obtain ⟨⟨bt, bm, hd⟩, ⟨A, nA, cA, hr⟩, ho⟩ := H1.out.1
            have HD := Lib.hid (And.intro (hd.below ((Below.refl _ W1).drew)) (And.intro (hr.below ((Below.refl _ W1).drew)) (And.intro (ho.trans (((Below.refl _ W1).drew).mono ho.size)) (H1.out.2.below ((Below.refl _ W1).drew) H1.out.2.lt)))); clear hd hr ho H1
            have HC0 := Lib.hid HD.out.2.2.2
            have HST := Lib.hid (dirClear_any W1.drew bd bt bm s1 i p HD.out.1 HG1.out.row.ti HG1.out.ok (by omega) (by have := HG1.out.row.len; omega) (by omega))
            have HRF0 := Lib.hid (fun (w3 : World) (h : RefD w3 w.heap.size br (.slice A nA cA) s1) (hB : w.heap.size ≤ w3.heap.size) => rclear_any w3 w.heap.size br (.slice A nA cA) s1 i p h hB HG1.out.ok (by omega) (HG1.out.row.more (by omega)))
            have HG2 := Lib.hid (HG1.out.clear p)
            generalize stepD s1 (clearW s1.xs p) (s1.xs.filter (awayT p)) = RR at *
            obtain ⟨r, s2⟩ := RR
            simp only at HST HRF0 HG2
            have j1 : ∀ m : Held (fun W => Blk W N 60 #[.int .u64 kd, .string p, .string q, .int .i64 nk, .int .i64 nm, .int .u32 nt, .string nd, .int .i64 sn]), (HeldW m).cell? ⟨N, 1, none⟩ = some (.string p) := fun m => (HeldW_spec m).cell 1
            clear HG1
            go_wp2_with fail
            refine wp_region_mix (fun W => Blk W N 60 #[.int .u64 kd, .string p, .string q, .int .i64 nk, .int .i64 nm, .int .u32 nt, .string nd, .int .i64 sn]) [(0, true), (1, true), (2, true), (4, true), (5, true), (6, true), (3, false), (7, false), (8, true), (9, true)] (by kernel_rfl) (by kernel_rfl) ?_
            simp only [pickP, List.filterMap_cons, List.filterMap_nil, List.getElem?_toArray, List.getElem?_cons_succ, List.getElem?_cons_zero, Option.map_some]
            repeat (apply mix_first; apply Exists.intro; refine ⟨fun m => ?_, HC0.out, ?_⟩; · (go_big_quiet_step (fail); exact wpQuiet_nil rfl))
            refine mix_forced HC0.out ?_
            go_wp2_with fail
            refine HST.out.mono ?_
            rintro e w3 ⟨rfl, ⟨bt3, bm3, hd3⟩, hg3⟩
            have hr3 := HD.out.2.1.far HD.out.1.box (by decide) (by decide) hg3
            have hN3 := HD.out.2.2.2.grown hg3 (by simpa using Blk.other HD.out.2.2.2 HD.out.1.box (by decide))
            have ho3 := below_grown HD.out.2.2.1 hg3 hbd HD.out.2.2.1.size
            have H3 := Lib.hid (And.intro hd3 (And.intro hr3 (And.intro ho3 hN3))); clear hd3 hr3 ho3 hN3 hg3 HST HD
            have HRF := Lib.hid (HRF0.out w3 H3.out.2.1 H3.out.2.2.1.size); clear HRF0
            have HC3 := Lib.hid H3.out.2.2.2; clear HC0
            go_wp2_with fail
            show mixC _ _ _ _ _ _ _
            repeat (apply mix_first; apply Exists.intro; refine ⟨fun m => ?_, HC3.out, ?_⟩; · (go_big_quiet_step (fail); exact wpQuiet_nil rfl))
            refine mix_forced HC3.out ?_
            go_wp2_with fail
            refine HRF.out.mono ?_
            rintro e w4 ⟨rfl, ⟨A4, n4, c4, hr4⟩, hg4⟩
            have hd4 := H3.out.1.far H3.out.2.1.box (by decide) (by decide) (by decide) (by decide) hg4
            have hN4 := H3.out.2.2.2.grown hg4 (by simpa using Blk.other H3.out.2.2.2 H3.out.2.1.box (by decide))
            have ho4 := below_grown H3.out.2.2.1 hg4 hbr H3.out.2.2.1.size
            have H4 := Lib.hid (And.intro (show Two18 w w.heap.size bd br _ w4 from ⟨⟨_, _, hd4⟩, ⟨_, _, _, hr4⟩, ho4⟩) hN4); clear hd4 hr4 ho4 hN4 hg4 HRF H3
            have HC4 := Lib.hid H4.out.2; clear HC3
            go_wp2_with fail
            show mixC _ _ _ _ _ _ _
            repeat (apply mix_first; apply Exists.intro; refine ⟨fun m => ?_, HC4.out, ?_⟩; · (go_big_quiet_step (fail); exact wpQuiet_nil rfl))
            refine mix_nil HC4.out ?_
            clear j1 HC4
            go_wp2_with fail
            go_meet
            case rel => exact ⟨r, s2, rfl, rfl, H4.out.1, HG2.out, H4.out.2⟩
          · -- kind 3
            obtain ⟨⟨bt, bm, hd⟩, ⟨A, nA, cA, hr⟩, ho⟩ := H1.out.1
            have HD := Lib.hid (And.intro (hd.below ((Below.refl _ W1).drew)) (And.intro (hr.below ((Below.refl _ W1).drew)) (And.intro (ho.trans (((Below.refl _ W1).drew).mono ho.size)) (H1.out.2.below ((Below.refl _ W1).drew) H1.out.2.lt)))); clear hd hr ho H1
            have HC0 := Lib.hid HD.out.2.2.2
            have HST := Lib.hid (dirRename_any W1.drew bd bt bm s1 i p q HD.out.1 HG1.out.row.ti HG1.out.ok (by omega) (by have := HG1.out.row.len; omega) (by omega) (by omega) (fun e he => ⟨by have := HG1.out.row.size e he; omega, HG1.out.row.nd e he⟩))
            have HRF0 := Lib.hid (fun (w3 : World) (h : RefD w3 w.heap.size br (.slice A nA cA) s1) (hB : w.heap.size ≤ w3.heap.size) => rrename_any w3 w.heap.size br (.slice A nA cA) s1 i p q h hB HG1.out.ok (by omega) (HG1.out.row.more (by omega)) (by omega) (by omega))
            have HG2 := Lib.hid (HG1.out.rename (by omega) p q)
            generalize stepD s1 (renW s1.xs p q) (renT s1.xs p q) = RR at *
            obtain ⟨r, s2⟩ := RR
            simp only at HST HRF0 HG2
            have j1 : ∀ m : Held (fun W => Blk W N 60 #[.int .u64 kd, .string p, .string q, .int .i64 nk, .int .i64 nm, .int .u32 nt, .string nd, .int .i64 sn]), (HeldW m).cell? ⟨N, 1, none⟩ = some (.string p) := fun m => (HeldW_spec m).cell 1
            have j2 : ∀ m : Held (fun W => Blk W N 60 #[.int .u64 kd, .string p, .string q, .int .i64 nk, .int .i64 nm, .int .u32 nt, .string nd, .int .i64 sn]), (HeldW m).cell? ⟨N, 2, none⟩ = some (.string q) := fun m => (HeldW_spec m).cell 2
            clear HG1
            go_wp2_with fail
            refine wp_region_mix (fun W => Blk W N 60 #[.int .u64 kd, .string p, .string q, .int .i64 nk, .int .i64 nm, .int .u32 nt, .string nd, .int .i64 sn]) [(0, true), (1, true), (2, true), (3, true), (4, true), (6, true), (7, true), (8, true), (9, true), (10, true), (5, false), (11, false), (12, true), (13, true)] (by kernel_rfl) (by kernel_rfl) ?_
            simp only [pickP, List.filterMap_cons, List.filterMap_nil, List.getElem?_toArray, List.getElem?_cons_succ, List.getElem?_cons_zero, Option.map_some]
            repeat (apply mix_first; apply Exists.intro; refine ⟨fun m => ?_, HC0.out, ?_⟩; · (go_big_quiet_step (fail); exact wpQuiet_nil rfl))
            refine mix_forced HC0.out ?_
            go_wp2_with fail
            refine HST.out.mono ?_
            rintro e w3 ⟨rfl, ⟨bt3, bm3, hd3⟩, hg3⟩
            have hr3 := HD.out.2.1.far HD.out.1.box (by decide) (by decide) hg3
            have hN3 := HD.out.2.2.2.grown hg3 (by simpa using Blk.other HD.out.2.2.2 HD.out.1.box (by decide))
            have ho3 := below_grown HD.out.2.2.1 hg3 hbd HD.out.2.2.1.size
            have H3 := Lib.hid (And.intro hd3 (And.intro hr3 (And.intro ho3 hN3))); clear hd3 hr3 ho3 hN3 hg3 HST HD
            have HRF := Lib.hid (HRF0.out w3 H3.out.2.1 H3.out.2.2.1.size); clear HRF0
            have HC3 := Lib.hid H3.out.2.2.2; clear HC0
            go_wp2_with fail
            show mixC _ _ _ _ _ _ _
            repeat (apply mix_first; apply Exists.intro; refine ⟨fun m => ?_, HC3.out, ?_⟩; · (go_big_quiet_step (fail); exact wpQuiet_nil rfl))
            refine mix_forced HC3.out ?_
            go_wp2_with fail
            refine HRF.out.mono ?_
            rintro e w4 ⟨rfl, ⟨A4, n4, c4, hr4⟩, hg4⟩
            have hd4 := H3.out.1.far H3.out.2.1.box (by decide) (by decide) (by decide) (by decide) hg4
            have hN4 := H3.out.2.2.2.grown hg4 (by simpa using Blk.other H3.out.2.2.2 H3.out.2.1.box (by decide))
            have ho4 := below_grown H3.out.2.2.1 hg4 hbr H3.out.2.2.1.size
            have H4 := Lib.hid (And.intro (show Two18 w w.heap.size bd br _ w4 from ⟨⟨_, _, hd4⟩, ⟨_, _, _, hr4⟩, ho4⟩) hN4); clear hd4 hr4 ho4 hN4 hg4 HRF H3
            have HC4 := Lib.hid H4.out.2; clear HC3
            go_wp2_with fail
            show mixC _ _ _ _ _ _ _
            repeat (apply mix_first; apply Exists.intro; refine ⟨fun m => ?_, HC4.out, ?_⟩; · (go_big_quiet_step (fail); exact wpQuiet_nil rfl))
            refine mix_nil HC4.out ?_
            clear j1 j2 HC4
            go_wp2_with fail
            go_meet
            case rel => exact ⟨r, s2, rfl, rfl, H4.out.1, HG2.out, H4.out.2⟩
          · -- a graft
            obtain ⟨⟨bt, bm, hd⟩, ⟨A, nA, cA, hr⟩, ho⟩ := H1.out.1
            have HD := Lib.hid (And.intro (hd.below ((Below.refl _ W1).drew)) (And.intro (hr.below ((Below.refl _ W1).drew)) (And.intro (ho.trans (((Below.refl _ W1).drew).mono ho.size)) (H1.out.2.below ((Below.refl _ W1).drew) H1.out.2.lt)))); clear hd hr ho H1
            have HC0 := Lib.hid HD.out.2.2.2
            have HGR := Lib.hid (fun W => grafts_any W ⟨kd, p, q, ⟨nk, nm, nt, nd⟩, sn⟩ hsin)
            have hgm : ∀ e ∈ graftsL ⟨kd, p, q, ⟨nk, nm, nt, nd⟩, sn⟩, e.1.size ≤ 90000 ∧ NdIn e.2 ∧ e.2.data.size ≤ 500 := fun e he => by
              obtain ⟨h1, h2⟩ := graftsL_mem he
              refine ⟨?_, by rw [h2]; exact hni, by rw [h2]; exact hd500⟩
              rcases h1 with h1 | h1
              · rw [h1]; show p.size ≤ 90000; omega
              · rw [h1]; show q.size ≤ 90000; omega
            have HGM := Lib.hid hgm; clear hgm
            have hgl := graftsL_len ⟨kd, p, q, ⟨nk, nm, nt, nd⟩, sn⟩
            generalize graftsL ⟨kd, p, q, ⟨nk, nm, nt, nd⟩, sn⟩ = L at *
            have hGRF := HG1.out.graft p (L := L) (fun e he => (HGM.out e he).2) hgl
            have hbp : bytesT (putsT (s1.xs.filter (awayT p)) L).2 ≤ 1000000000 := by have := ((HG1.out.row.away p).puts (fun e he => (HGM.out e he).2) hgl).bytes; omega
            have HGB := Lib.hid hbp; clear hbp
            have HST0 := Lib.hid (fun (wg : World) (v : Value) (h : DirAt wg bd bt bm s1) (hv : SlV wg 5 eCSN v L) => dirGraft_any wg bd bt bm s1 i p v L h HG1.out.row.ti HG1.out.ok (by omega) (by have := HG1.out.row.len; omega) (by omega) (by omega) (fun e he => ⟨(HGM.out e he).1, (HGM.out e he).2.1⟩) HGB.out hv)
            have HRF0 := Lib.hid (fun (w3 : World) (v : Value) (h : RefD w3 w.heap.size br (.slice A nA cA) s1) (hB : w.heap.size ≤ w3.heap.size) (hv : SlV w3 5 eCSN v L) => rgraft_any w3 w.heap.size br (.slice A nA cA) s1 i p v L h hB HG1.out.ok (by omega) (HG1.out.row.more (by omega)) (by omega) HGM.out hv)
            have hrm1 := HG1.out.rm
            simp only [hrm1] at HST0 HRF0
            clear hrm1
            have HG2 := Lib.hid hGRF
            generalize stepD s1 (graftW room s1.xs p L).1 (graftW room s1.xs p L).2 = RR at *
            obtain ⟨r, s2⟩ := RR
            clear hGRF HGB
            simp only at HST0 HRF0 HG2
            have j0 : ∀ m : Held (fun W => Blk W N 60 #[.int .u64 kd, .string p, .string q, .int .i64 nk, .int .i64 nm, .int .u32 nt, .string nd, .int .i64 sn]), (HeldW m).cell? ⟨N, 0, none⟩ = some (.int .u64 kd) := fun m => (HeldW_spec m).cell 0
            have j1 : ∀ m : Held (fun W => Blk W N 60 #[.int .u64 kd, .string p, .string q, .int .i64 nk, .int .i64 nm, .int .u32 nt, .string nd, .int .i64 sn]), (HeldW m).cell? ⟨N, 1, none⟩ = some (.string p) := fun m => (HeldW_spec m).cell 1
            have j2 : ∀ m : Held (fun W => Blk W N 60 #[.int .u64 kd, .string p, .string q, .int .i64 nk, .int .i64 nm, .int .u32 nt, .string nd, .int .i64 sn]), (HeldW m).cell? ⟨N, 2, none⟩ = some (.string q) := fun m => (HeldW_spec m).cell 2
            have j3 : ∀ m : Held (fun W => Blk W N 60 #[.int .u64 kd, .string p, .string q, .int .i64 nk, .int .i64 nm, .int .u32 nt, .string nd, .int .i64 sn]), (HeldW m).cell? ⟨N, 3, none⟩ = some (.int .i64 nk) := fun m => (HeldW_spec m).cell 3
            have j4 : ∀ m : Held (fun W => Blk W N 60 #[.int .u64 kd, .string p, .string q, .int .i64 nk, .int .i64 nm, .int .u32 nt, .string nd, .int .i64 sn]), (HeldW m).cell? ⟨N, 4, none⟩ = some (.int .i64 nm) := fun m => (HeldW_spec m).cell 4
            have j5 : ∀ m : Held (fun W => Blk W N 60 #[.int .u64 kd, .string p, .string q, .int .i64 nk, .int .i64 nm, .int .u32 nt, .string nd, .int .i64 sn]), (HeldW m).cell? ⟨N, 5, none⟩ = some (.int .u32 nt) := fun m => (HeldW_spec m).cell 5
            have j6 : ∀ m : Held (fun W => Blk W N 60 #[.int .u64 kd, .string p, .string q, .int .i64 nk, .int .i64 nm, .int .u32 nt, .string nd, .int .i64 sn]), (HeldW m).cell? ⟨N, 6, none⟩ = some (.string nd) := fun m => (HeldW_spec m).cell 6
            have j7 : ∀ m : Held (fun W => Blk W N 60 #[.int .u64 kd, .string p, .string q, .int .i64 nk, .int .i64 nm, .int .u32 nt, .string nd, .int .i64 sn]), (HeldW m).cell? ⟨N, 7, none⟩ = some (.int .i64 sn) := fun m => (HeldW_spec m).cell 7
            clear HG1
            go_wp2_with fail
            refine wp_region_mix (fun W => Blk W N 60 #[.int .u64 kd, .string p, .string q, .int .i64 nk, .int .i64 nm, .int .u32 nt, .string nd, .int .i64 sn]) [(0, true), (1, true), (2, true), (3, true), (6, true), (7, true), (8, true), (9, true), (4, false), (5, false), (10, false), (11, false), (12, true), (13, true)] (by kernel_rfl) (by kernel_rfl) ?_
            simp only [pickP, List.filterMap_cons, List.filterMap_nil, List.getElem?_toArray, List.getElem?_cons_succ, List.getElem?_cons_zero, Option.map_some]
            repeat (apply mix_first; apply Exists.intro; refine ⟨fun m => ?_, HC0.out, ?_⟩; · (go_big_quiet_step (fail); exact wpQuiet_nil rfl))
            refine mix_forced HC0.out ?_
            go_wp2_with fail
            refine (HGR.out _).mono ?_
            rintro e wg ⟨Ag, jg, cg, rfl, hvg, hbg⟩
            have HV := Lib.hid (And.intro (HD.out.1.below hbg) (And.intro (HD.out.2.1.below hbg) (And.intro (HD.out.2.2.1.trans (hbg.mono HD.out.2.2.1.size)) (HD.out.2.2.2.below hbg HD.out.2.2.2.lt)))); clear HD hbg HC0
            have HC1 := Lib.hid HV.out.2.2.2
            have HST := Lib.hid (HST0.out wg _ HV.out.1 hvg); clear HST0 hvg
            go_wp2_with fail
            show mixC _ _ _ _ _ _ _
            refine mix_forced HC1.out ?_
            go_wp2_with fail
            refine HST.out.mono ?_
            rintro e w3 ⟨rfl, ⟨bt3, bm3, hd3⟩, hg3⟩
            have hr3 := HV.out.2.1.far HV.out.1.box (by decide) (by decide) hg3
            have hN3 := HV.out.2.2.2.grown hg3 (by simpa using Blk.other HV.out.2.2.2 HV.out.1.box (by decide))
            have ho3 := below_grown HV.out.2.2.1 hg3 hbd HV.out.2.2.1.size
            have H3 := Lib.hid (And.intro hd3 (And.intro hr3 (And.intro ho3 hN3))); clear hd3 hr3 ho3 hN3 hg3 HST HV
            have HC3 := Lib.hid H3.out.2.2.2; clear HC1
            go_wp2_with fail
            show mixC _ _ _ _ _ _ _
            refine mix_forced HC3.out ?_
            go_wp2_with fail
            refine (HGR.out _).mono ?_
            rintro e wh ⟨Ah, jh, ch, rfl, hvh, hbh⟩
            have HW := Lib.hid (And.intro (H3.out.1.below hbh) (And.intro (H3.out.2.1.below hbh) (And.intro (H3.out.2.2.1.trans (hbh.mono H3.out.2.2.1.size)) (H3.out.2.2.2.below hbh H3.out.2.2.2.lt)))); clear H3 hbh HC3
            have HC5 := Lib.hid HW.out.2.2.2
            have HRF := Lib.hid (HRF0.out wh _ HW.out.2.1 HW.out.2.2.1.size hvh); clear HRF0 hvh HGR
            go_wp2_with fail
            show mixC _ _ _ _ _ _ _
            repeat (apply mix_first; apply Exists.intro; refine ⟨fun m => ?_, HC5.out, ?_⟩; · (go_big_quiet_step (fail); exact wpQuiet_nil rfl))
            refine mix_forced HC5.out ?_
            go_wp2_with fail
            refine HRF.out.mono ?_
            rintro e w4 ⟨rfl, ⟨A4, n4, c4, hr4⟩, hg4⟩
            have hd4 := HW.out.1.far HW.out.2.1.box (by decide) (by decide) (by decide) (by decide) hg4
            have hN4 := HW.out.2.2.2.grown hg4 (by simpa using Blk.other HW.out.2.2.2 HW.out.2.1.box (by decide))
            have ho4 := below_grown HW.out.2.2.1 hg4 hbr HW.out.2.2.1.size
            have H4 := Lib.hid (And.intro (show Two18 w w.heap.size bd br _ w4 from ⟨⟨_, _, hd4⟩, ⟨_, _, _, hr4⟩, ho4⟩) hN4); clear hd4 hr4 ho4 hN4 hg4 HRF HW
            have HC4 := Lib.hid H4.out.2; clear HC5
            go_wp2_with fail
            show mixC _ _ _ _ _ _ _
            repeat (apply mix_first; apply Exists.intro; refine ⟨fun m => ?_, HC4.out, ?_⟩; · (go_big_quiet_step (fail); exact wpQuiet_nil rfl))
            refine mix_nil HC4.out ?_
            clear j0 j1 j2 j3 j4 j5 j6 j7 HC4
            go_wp2_with fail
            go_meet
            case rel => exact ⟨r, s2, rfl, rfl, H4.out.1, HG2.out, H4.out.2⟩
          · -- a fuse
            obtain ⟨⟨bt, bm, hd⟩, ⟨A, nA, cA, hr⟩, ho⟩ := H1.out.1
            have HFU := Lib.hid (dirFuse_any W1 bd bt bm s1 sn hd)
            have HD := Lib.hid (And.intro hd (And.intro hr (And.intro ho H1.out.2))); clear hd hr ho
            have HG2 := Lib.hid (show Gd room (i + 1) { s1 with fuse := max sn (-1) } from ⟨HG1.out.rm, HG1.out.row.more (by omega), HG1.out.fit, ⟨by show (-1 : Int) ≤ max sn (-1); omega, by show max sn (-1) ≤ 9223372036854775807; omega, HG1.out.ok.o0, by have := HG1.out.ok.o1; show s1.ops ≤ ((i + 1 : Nat) : Int); omega⟩⟩); clear HG1
            have y7 := H1.out.2.cell 7
            simp at y7
            go_wp2_with fail
            refine HFU.out.mono ?_
            rintro e w3 ⟨rfl, hd3, hg3⟩
            have hr3 := HD.out.2.1.far HD.out.1.box (by decide) (by decide) hg3
            have hN3 := HD.out.2.2.2.grown hg3 (by simpa using Blk.other HD.out.2.2.2 HD.out.1.box (by decide))
            have ho3 := below_grown HD.out.2.2.1 hg3 hbd HD.out.2.2.1.size
            have H3 := Lib.hid (And.intro hd3 (And.intro hr3 (And.intro ho3 hN3))); clear hd3 hr3 ho3 hN3 hg3 HFU HD H1 y7
            have y7 := H3.out.2.2.2.cell 7
            have b2 := H3.out.2.1.box.cell 2
            have f2 := H3.out.2.1.box.frozen 2
            simp at y7 b2
            obtain ⟨F, hF⟩ : ∃ F, max sn (-1) = F := ⟨_, rfl⟩
            rw [hF] at H3 HG2
            go_wp2_with fail
            have hgg := grown_put (grown_refl w3 (some br)) 2 (.int .i64 F)
            have hd4 := H3.out.1.far H3.out.2.1.box (by decide) (by decide) (by decide) (by decide) hgg
            have hN4 := H3.out.2.2.2.grown hgg (by simpa using Blk.other H3.out.2.2.2 H3.out.2.1.box (by decide))
            have ho4 := below_grown H3.out.2.2.1 hgg hbr H3.out.2.2.1.size
            have hb4 := H3.out.2.1.box.put 2 (.int .i64 F)
            have hr4 := own_blk_kept H3.out.2.1.row H3.out.2.1.box (by decide) hgg
            go_meet
            case rel => exact ⟨0, { s1 with fuse := F }, rfl, rfl, ⟨⟨_, _, hd4⟩, ⟨A, nA, cA, ⟨by simpa using hb4, hr4⟩⟩, ho4⟩, HG2.out, hN4⟩
          · -- a restart
            obtain ⟨⟨bt, bm, hd⟩, ⟨A, nA, cA, hr⟩, ho⟩ := H1.out.1
            have HFU := Lib.hid (dirRestart_any W1 bd bt bm s1 hd)
            have HD := Lib.hid (And.intro hd (And.intro hr (And.intro ho H1.out.2))); clear hd hr ho
            have HG2 := Lib.hid (show Gd room (i + 1) { s1 with fuse := -1, off := false } from ⟨HG1.out.rm, HG1.out.row.more (by omega), HG1.out.fit, ⟨by show (-1 : Int) ≤ -1; decide, by show (-1 : Int) ≤ 9223372036854775807; decide, HG1.out.ok.o0, by have := HG1.out.ok.o1; show s1.ops ≤ ((i + 1 : Nat) : Int); omega⟩⟩); clear HG1
            go_wp2_with fail
            refine HFU.out.mono ?_
            rintro e w3 ⟨rfl, hd3, hg3⟩
            have hr3 := HD.out.2.1.far HD.out.1.box (by decide) (by decide) hg3
            have hN3 := HD.out.2.2.2.grown hg3 (by simpa using Blk.other HD.out.2.2.2 HD.out.1.box (by decide))
            have ho3 := below_grown HD.out.2.2.1 hg3 hbd HD.out.2.2.1.size
            have H3 := Lib.hid (And.intro hd3 (And.intro hr3 (And.intro ho3 hN3))); clear hd3 hr3 ho3 hN3 hg3 HFU HD H1
            have b2 := H3.out.2.1.box.cell 2
            have f2 := H3.out.2.1.box.frozen 2
            have b3 := H3.out.2.1.box.cell 3
            have f3 := H3.out.2.1.box.frozen 3
            simp at b2 b3
            go_wp2_with fail
            have hgg := grown_put (grown_put (grown_refl w3 (some br)) 3 (.bool false)) 2 (.int .i64 (-1))
            have hd4 := H3.out.1.far H3.out.2.1.box (by decide) (by decide) (by decide) (by decide) hgg
            have hN4 := H3.out.2.2.2.grown hgg (by simpa using Blk.other H3.out.2.2.2 H3.out.2.1.box (by decide))
            have ho4 := below_grown H3.out.2.2.1 hgg hbr H3.out.2.2.1.size
            have hb4 := (H3.out.2.1.box.put 3 (.bool false)).put 2 (.int .i64 (-1))
            have hr4 := own_blk_kept H3.out.2.1.row H3.out.2.1.box (by decide) hgg
            go_meet
            case rel => exact ⟨0, { s1 with fuse := -1, off := false }, rfl, rfl, ⟨⟨_, _, hd4⟩, ⟨A, nA, cA, ⟨by simpa using hb4, hr4⟩⟩, ho4⟩, HG2.out, hN4⟩
        case rest =>
          obtain ⟨r, s2, rfl, rfl, ht, hg2, hN⟩ := hcut
          clear H1 HG1 hm hm7
          obtain ⟨⟨bt, bm, hd⟩, ⟨A, nA, cA, hr⟩, ho⟩ := ht
          have k0 : ∀ m : Held (Aft wc), (HeldW m).cell? ⟨br, 0, none⟩ = some (.slice A nA cA) := fun m => (Aft.cell m hr.box.lt).trans (hr.box.cell 0)
          have k3 : ∀ m : Held (Aft wc), (HeldW m).cell? ⟨br, 3, none⟩ = some (.bool s2.off) := fun m => (Aft.cell m hr.box.lt).trans (hr.box.cell 3)
          have k4 : ∀ m : Held (Aft wc), (HeldW m).cell? ⟨br, 4, none⟩ = some (.int .i64 s2.ops) := fun m => (Aft.cell m hr.box.lt).trans (hr.box.cell 4)
          have k1 : ∀ m : Held (Aft wc), (HeldW m).cell? ⟨N, 1, none⟩ = some (.string p) := fun m => (Aft.cell m hN.lt).trans (hN.cell 1)
          have HT := Lib.hid (And.intro (hd.below ((Below.refl _ wc).drew)) (And.intro (hr.below ((Below.refl _ wc).drew)) (And.intro (ho.trans (((Below.refl _ wc).drew).mono ho.size)) (hN.below ((Below.refl _ wc).drew) hN.lt)))); clear hd hr ho hN
          have HG2 := Lib.hid hg2; clear hg2
          have HC := Lib.hid (Aft.start wc)
          have HL := Lib.hid (show s2.xs.length ≤ 1000 from by have := HG2.out.row.len; omega)
          have HY := Lib.hid (show bytesT s2.xs ≤ 1000000000 from by have := HG2.out.row.bytes; omega)
          have hsr : (r != r) = false := by simp
          have hso : (s2.off != s2.off) = false := by simp
          have hsp : (s2.ops != s2.ops) = false := by simp
          have hsb : ((bytesT s2.xs : Int) != (bytesT s2.xs : Int)) = false := by simp
          obtain ⟨gk, gm, gt, gd, hgt⟩ : ∃ gk gm gt gd, getT s2.xs p = (⟨gk, gm, gt, gd⟩ : Nd) := ⟨_, _, _, _, rfl⟩
          have HGT := Lib.hid (show refGetT s2.xs p = (⟨gk, gm, gt, gd⟩ : Nd) from (refGetT_eq s2.xs p HG2.out.row.ti.up).trans hgt)
          have HGT2 := Lib.hid hgt; clear hgt
          have hneq := fun W => neq_node gd gk gm gt W
          go_wp2_with fail
          refine wp_region_mix (Aft wc) [(0, true), (1, true), (2, true), (3, true), (4, true), (6, true), (7, true), (8, true), (9, true), (5, false), (10, true), (11, true), (12, true), (13, true), (15, true), (16, true), (17, true), (18, true), (14, false), (19, true), (20, true), (21, true), (22, true), (23, true), (24, true), (26, true), (27, true), (28, true), (29, true), (30, true), (31, true), (25, false), (32, false), (33, true), (34, true), (35, true), (36, true), (38, true), (39, true), (40, true), (41, true), (37, false), (42, false), (43, true), (44, true), (45, true), (46, true), (49, true), (50, true), (51, true), (52, true), (47, false), (48, false), (53, false), (54, true), (55, true)] (by kernel_rfl) (by kernel_rfl) ?_
          simp only [pickP, List.filterMap_cons, List.filterMap_nil, List.getElem?_toArray, List.getElem?_cons_succ, List.getElem?_cons_zero, Option.map_some]
          repeat (apply mix_first; apply Exists.intro; refine ⟨fun m => ?_, HC.out, ?_⟩; · (go_big_quiet_step (fail); exact wpQuiet_nil rfl))
          refine mix_forced HC.out ?_
          have HCL := Lib.hid (dirOff_any _ bd bt bm s2 HT.out.1)
          go_wp2_with fail
          refine HCL.out.mono ?_
          rintro e _ ⟨rfl, rfl⟩
          clear HCL
          go_wp2_with fail
          show mixC _ _ _ _ _ _ _
          repeat (apply mix_first; apply Exists.intro; refine ⟨fun m => ?_, HC.out, ?_⟩; · (go_big_quiet_step (fail); exact wpQuiet_nil rfl))
          refine mix_forced HC.out ?_
          have HCL := Lib.hid (dirOps_any _ bd bt bm s2 HT.out.1)
          go_wp2_with fail
          refine HCL.out.mono ?_
          rintro e _ ⟨rfl, rfl⟩
          clear HCL
          go_wp2_with fail
          show mixC _ _ _ _ _ _ _
          repeat (apply mix_first; apply Exists.intro; refine ⟨fun m => ?_, HC.out, ?_⟩; · (go_big_quiet_step (fail); exact wpQuiet_nil rfl))
          refine mix_forced HC.out ?_
          have HCL := Lib.hid (dirGet_any _ bd bt bm s2 p HT.out.1 (by have := HL.out; omega) (by omega))
          rw [HGT2.out] at HCL
          simp only [Nd.c] at HCL
          go_wp2_with fail
          refine HCL.out.mono ?_
          rintro e w5 ⟨rfl, hb⟩
          clear HCL
          have HCn := Lib.hid (Aft.keep _ _ HC.out hb); clear HC
          have HC := HCn; clear HCn
          have HTn := Lib.hid (And.intro (HT.out.1.below hb) (And.intro (HT.out.2.1.below hb) (And.intro (HT.out.2.2.1.trans (hb.mono HT.out.2.2.1.size)) (HT.out.2.2.2.below hb HT.out.2.2.2.lt)))); clear HT hb
          have HT := HTn; clear HTn
          have HCL := Lib.hid (ref16Get_any w5 _ s2.xs p HT.out.2.1.row.slv)
          rw [HGT.out] at HCL
          simp only [Nd.c] at HCL
          go_wp2_with fail
          show mixC _ _ _ _ _ _ _
          refine mix_forced HC.out ?_
          go_wp2_with fail
          refine HCL.out.mono ?_
          rintro e w6 ⟨rfl, hb⟩
          clear HCL
          have HCn := Lib.hid (Aft.keep _ _ HC.out hb); clear HC
          have HC := HCn; clear HCn
          have HTn := Lib.hid (And.intro (HT.out.1.below hb) (And.intro (HT.out.2.1.below hb) (And.intro (HT.out.2.2.1.trans (hb.mono HT.out.2.2.1.size)) (HT.out.2.2.2.below hb HT.out.2.2.2.lt)))); clear HT hb
          have HT := HTn; clear HTn
          go_wp2_with fail
          show mixC _ _ _ _ _ _ _
          repeat (apply mix_first; apply Exists.intro; refine ⟨fun m => ?_, HC.out, ?_⟩; · (go_big_quiet_step (fail); exact wpQuiet_nil rfl))
          refine mix_forced HC.out ?_
          have HCL := Lib.hid (dirBytes_any _ bd bt bm s2 HT.out.1 (by have := HL.out; omega) HY.out)
          go_wp2_with fail
          refine HCL.out.mono ?_
          rintro e w7 ⟨rfl, hb⟩
          clear HCL
          have HCn := Lib.hid (Aft.keep _ _ HC.out hb); clear HC
          have HC := HCn; clear HCn
          have HTn := Lib.hid (And.intro (HT.out.1.below hb) (And.intro (HT.out.2.1.below hb) (And.intro (HT.out.2.2.1.trans (hb.mono HT.out.2.2.1.size)) (HT.out.2.2.2.below hb HT.out.2.2.2.lt)))); clear HT hb
          have HT := HTn; clear HTn
          have HCL := Lib.hid (rbytes_any w7 _ s2.xs HT.out.2.1.row.slv HY.out)
          go_wp2_with fail
          show mixC _ _ _ _ _ _ _
          refine mix_forced HC.out ?_
          go_wp2_with fail
          refine HCL.out.mono ?_
          rintro e w8 ⟨rfl, hb⟩
          clear HCL
          have HCn := Lib.hid (Aft.keep _ _ HC.out hb); clear HC
          have HC := HCn; clear HCn
          have HTn := Lib.hid (And.intro (HT.out.1.below hb) (And.intro (HT.out.2.1.below hb) (And.intro (HT.out.2.2.1.trans (hb.mono HT.out.2.2.1.size)) (HT.out.2.2.2.below hb HT.out.2.2.2.lt)))); clear HT hb
          have HT := HTn; clear HTn
          go_wp2_with fail
          show mixC _ _ _ _ _ _ _
          repeat (apply mix_first; apply Exists.intro; refine ⟨fun m => ?_, HC.out, ?_⟩; · (go_big_quiet_step (fail); exact wpQuiet_nil rfl))
          refine mix_forced HC.out ?_
          have HCL := Lib.hid (dirTree_any _ bd bt bm s2 HT.out.1)
          go_wp2_with fail
          refine HCL.out.mono ?_
          rintro e w9 ⟨bt4, bm4, rfl, ht4, _, hb⟩
          clear HCL
          have HCn := Lib.hid (Aft.keep _ _ HC.out hb); clear HC
          have HC := HCn; clear HCn
          have HTn := Lib.hid (And.intro (HT.out.1.below hb) (And.intro (HT.out.2.1.below hb) (And.intro (HT.out.2.2.1.trans (hb.mono HT.out.2.2.1.size)) (HT.out.2.2.2.below hb HT.out.2.2.2.lt)))); clear HT hb
          have HT := HTn; clear HTn
          have HCL := Lib.hid (treeItems_any w9 bt4 bm4 s2.xs ht4 (by have := HL.out; omega)); clear ht4
          go_wp2_with fail
          show mixC _ _ _ _ _ _ _
          refine mix_forced HC.out ?_
          go_wp2_with fail
          refine HCL.out.mono ?_
          rintro e w10 ⟨r5, rfl, ho5, hb⟩
          obtain ⟨A5, c5, rfl, _, _, _⟩ := SlV_of_any ho5
          clear HCL
          have HCn := Lib.hid (Aft.keep _ _ HC.out hb); clear HC
          have HC := HCn; clear HCn
          have HTn := Lib.hid (And.intro (HT.out.1.below hb) (And.intro (HT.out.2.1.below hb) (And.intro (HT.out.2.2.1.trans (hb.mono HT.out.2.2.1.size)) (HT.out.2.2.2.below hb HT.out.2.2.2.lt)))); clear HT hb
          have HT := HTn; clear HTn
          have HCL := Lib.hid (ref16Whole_same w10 _ _ s2.xs ho5.slv HT.out.2.1.row.slv); clear ho5
          go_wp2_with fail
          show mixC _ _ _ _ _ _ _
          refine mix_forced HC.out ?_
          go_wp2_with fail
          refine HCL.out.mono ?_
          rintro e w11 ⟨rfl, hb⟩
          clear HCL
          have HCn := Lib.hid (Aft.keep _ _ HC.out hb); clear HC
          have HC := HCn; clear HCn
          have HTn := Lib.hid (And.intro (HT.out.1.below hb) (And.intro (HT.out.2.1.below hb) (And.intro (HT.out.2.2.1.trans (hb.mono HT.out.2.2.1.size)) (HT.out.2.2.2.below hb HT.out.2.2.2.lt)))); clear HT hb
          have HT := HTn; clear HTn
          go_wp2_with fail
          show mixC _ _ _ _ _ _ _
          repeat (apply mix_first; apply Exists.intro; refine ⟨fun m => ?_, HC.out, ?_⟩; · (go_big_quiet_step (fail); exact wpQuiet_nil rfl))
          refine mix_nil HC.out ?_
          clear k0 k1 k3 k4 hneq
          go_wp2_with fail
          go_roundw
          case rel => exact ⟨i + 1, s2, by omega, by go_num, ⟨⟨_, _, HT.out.1⟩, ⟨_, _, _, HT.out.2.1⟩, HT.out.2.2.1⟩, HG2.out⟩
          case measure => simp [intOf]; omega
      · obtain rfl : i = n := by omega
        have HB0 := Lib.hid ht.old; clear ht hgd
        go_wp2_with fail
        refine (HLV.out _).mono ?_
        rintro e v9 ⟨rfl, hb1⟩
        have HB9 := Lib.hid (HB0.out.trans (hb1.mono HB0.out.size)); clear hb1 HB0
        go_wp2_with fail
        go_ret
        exact ⟨rfl, HB9.out⟩
end Go.Proofs.YtcpmhjealiajpaaGreatDoor
/- The walk of DirfsPlays in the statement's form. -/
set_option linter.unusedVariables false
set_option linter.unusedSimpArgs false
namespace Go.Proofs.YtcpmhjealiajpaaGreatDoor
open Go Go.ChangeShapes Go.WideShapes Go.ChangeAt Go.RowKit Go.Shelf
open Sw
set_option maxRecDepth 100000 in
theorem dirfsPlays_walk : Walks 5 Tryz.f5 := by
  intro H enc W base args ds ps hval hA hlt hsz
  rw [Tryz.params5] at hA hval
  obtain ⟨v0, v1, d0, d1, p0, p1, rfl, rfl, rfl, h0, h1⟩ := trodAll_two hA
  obtain ⟨a, rfl, rfl, rfl, wa⟩ := open_int Tryz.underlying3 (hval 0 3 v0 rfl rfl) h0
  obtain ⟨A, n, c, l, rfl, hnc, hcm, hl, hsl, hv, _⟩ := open_slice_dec (size := 8) st18C St18In Tryz.underlying54 (by kernel_rfl) (by omega) dec_st18 (hval 1 54 v1 rfl rfl) h1
  exact dirfsPlays_main W A n c l a hl hnc hcm hsl hv
end Go.Proofs.YtcpmhjealiajpaaGreatDoor
