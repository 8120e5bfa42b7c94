/- The main walk of DevFuse. -/
import Derived.Test.YtlogdionhgabdaaDevFusePlain
import Derived.Test.YtlogdionhgabdaaStep17
import Derived.Test.YtlogdionhgabdaaDevLives
import Derived.Test.YtlogdionhgabdaaChainD
set_option linter.unusedVariables false
set_option linter.unusedSimpArgs false
namespace Go.Proofs.Ytlogdionhgabdaa
open Go Go.RowKit
open Sw
set_option maxRecDepth 100000 in
set_option maxHeartbeats 8000000 in
theorem devFuse_main (w : World) (A : Option Addr) (n c : Nat) (l : List St17) (fu li : Nat) (hl : l.length = n) (hnc : n ≤ c) (hcm : c ≤ maxLen) (hsl : SlOf w 4 st17C A l) (hin : ∀ s ∈ l, St17In w s) (hfu : fu < 18446744073709551616) (hli : li < 18446744073709551616) :
    Calls Try.prog 3 #[.slice A n c, .int .u64 fu, .int .u64 li] w fun e w' => e = .returned (.bool true) ∧ Below w.heap.size w w' := by
  unfold maxLen at hcm
  have HLV := Lib.hid (fun W => lives17_any W)
  by_cases hbig : 30 < n
  · have hb1 : (30 : Int) < n := by omega
    clear hsl hin hbig
    go_enter Try.func3, Try.ntmps3
    go_wp2_with fail
    refine (HLV.out _).mono ?_
    rintro e w9 ⟨rfl, hb9⟩
    go_wp2_with fail
    go_ret
    exact ⟨rfl, hb9⟩
  · have hb1 : ¬ (30 : Int) < n := by omega
    obtain ⟨fm, hfm, hfm20⟩ : ∃ fm : Nat, (fu : Int) % 20 = fm ∧ fm < 20 := ⟨fu % 20, by omega, by omega⟩
    obtain ⟨lm, hlm, hlm13⟩ : ∃ lm : Nat, (li : Int) % 13 = lm ∧ lm < 13 := ⟨li % 13, by omega, by omega⟩
    have hfw : IntKind.i64.wrap (fm : Int) = fm := IntWalk.i64_in _ (by omega)
    have hlw : IntKind.i64.wrap (lm : Int) = lm := IntWalk.i64_in _ (by omega)
    have hlm0 : (0 : Int) ≤ lm := by omega
    have HN0 := Lib.hid (devNew_any w 12)
    have HIN := Lib.hid (And.intro hl (And.intro hin hsl)); clear hl hin hsl hbig
    go_enter Try.func3, Try.ntmps3
    go_wp2_with fail
    refine HN0.out.mono ?_
    rintro e w1 ⟨bd, F, rfl, hd, hF, hb⟩
    obtain ⟨bs, bw, fS, fW, hdi⟩ := hd
    have HL := Lib.hid (devLimit_any hdi lm)
    have H1 := Lib.hid (And.intro hF hb); clear hF hb hdi HN0
    go_wp2_with fail
    refine HL.out.mono ?_
    rintro e w2 ⟨rfl, hd2, ht2⟩
    have HF := Lib.hid (devFuse_any hd2 fm)
    go_wp2_with fail
    refine HF.out.mono ?_
    rintro e w3 ⟨rfl, hd3, ht3⟩
    have H3 := Lib.hid (And.intro (show DevAt w3 F bd _ from ⟨_, _, _, _, hd3⟩) (And.intro H1.out.1 (H1.out.2.trans (((ht2.trans ht3 (fun i hi => .inl hi)).to_below H1.out.1 H1.out.2.size))))); clear hd2 ht2 hd3 ht3 HL HF H1
    have hst := FuI.start fm lm (by omega) (by omega) (by omega) (by omega)
    have HS := Lib.hid hst; clear hst
    go_wp2_with fail
    go_loopw [10, 34] (fun dv iv wr => ∃ (i : Nat) (done : Int) (d : Dv) (F : Nat → Prop), i ≤ n ∧ iv = .int .i64 i ∧ dv = .int .i64 done ∧ DevAt wr F bd d ∧ FuI fm lm done d ∧ (∀ j, F j → w.heap.size ≤ j) ∧ Below w.heap.size w wr ∧ d.wet.length ≤ i ∧ 0 ≤ done) (fun _ iv _ => n - (intOf iv).toNat)
    case atStart => exact ⟨0, 0, _, F, Nat.zero_le _, rfl, rfl, H3.out.1, HS.out, H3.out.2.1, H3.out.2.2, Nat.zero_le _, by omega⟩
    case round =>
      obtain ⟨i, done, d1, F, hi, rfl, rfl, hda, hfui, hlow, hold, hwl, hd0⟩ := hrel
      clear H3 HS
      have hdl := hfui.le
      by_cases hlt : i < n
      · have hiL : i < l.length := by rw [HIN.out.1]; exact hlt
        obtain ⟨ab, off, hA, hbb, hcs⟩ := (HIN.out.2.2.below hold (Nat.le_refl _)) (by omega)
        have c0 := hcs i hiL 0 (by omega)
        have c1 := hcs i hiL 1 (by omega)
        have c2 := hcs i hiL 2 (by omega)
        have c3' := hcs i hiL 3 (by omega)
        simp only [st17C, List.getElem?_cons_succ, List.getElem?_cons_zero, Nat.add_zero] at c0 c1 c2 c3'
        subst hA
        clear hcs
        have hi1 : (i : Int) < n := by omega
        have hsin := HIN.out.2.1 l[i] (List.getElem_mem hiL)
        obtain ⟨⟨kd, po, b, v, kp⟩, hx⟩ : ∃ x, l[i] = x := ⟨_, rfl⟩
        simp only [hx] at c0 c1 c2 c3' hsin
        clear hx
        have hk0 : 0 ≤ kd := hsin.k0
        have hk1 : kd < 18446744073709551616 := hsin.k1
        obtain ⟨KA, kc, hkv, _⟩ := hsin.slv
        simp only at hkv
        subst hkv
        obtain ⟨kl, hkl⟩ : ∃ kl, kp.length = kl := ⟨_, rfl⟩
        rw [hkl] at c3'
        try rw [hkl]
        clear hsin hkl
        obtain ⟨WB, hWB⟩ : ∃ WB, wr.alloc (.cells #[.int .u64 kd, .int .i64 po, .int .u8 (b.toNat : Int), .slice KA kl kc] 30) = WB := ⟨_, rfl⟩
        obtain ⟨N, hNN⟩ : ∃ N, wr.heap.size = N := ⟨_, rfl⟩
        have hal : Below wr.heap.size wr WB := by rw [← hWB]; exact (Below.refl _ _).alloc (Nat.le_refl _) _
        have HN := Lib.hid (show Blk WB N 30 #[.int .u64 kd, .int .i64 po, .int .u8 (b.toNat : Int), .slice KA kl kc] from by rw [← hWB, ← hNN]; exact Blk.new wr _ _)
        have HNF := Lib.hid (show ¬ F N from fun h => by have := hda.lt N h; omega)
        have HB := Lib.hid (And.intro (hda.below hal) (And.intro hlow (And.intro (hold.trans (hal.mono hold.size)) hwl)))
        have HFU := Lib.hid hfui
        have HFD := Lib.hid hd0
        clear hda hlow hold hwl hfui hal hd0
        obtain ⟨m, hm, hm2⟩ : ∃ m : Int, kd % 2 = m ∧ (m = 0 ∨ m = 1) := ⟨kd % 2, rfl, by omega⟩
        go_upto_region 12 with fail
        try rw [hWB]
        try rw [hNN]
        clear hWB hNN c0 c1 c2 c3'
        have z0 := HN.out.cell 0
        simp at z0
        rcases hm2 with rfl | rfl
        · skip
          -- a write
          go_wp2_with fail
          have HDR := Lib.hid (And.intro (HB.out.1.below ((Below.refl _ WB).drew)) (And.intro HB.out.2.1 (And.intro (HB.out.2.2.1.trans (((Below.refl _ WB).drew).mono HB.out.2.2.1.size)) HB.out.2.2.2))); clear HB
          have j1 : ∀ m : Held (fun W => Blk W N 30 #[.int .u64 kd, .int .i64 po, .int .u8 (b.toNat : Int), .slice KA kl kc]), (HeldW m).cell? ⟨N, 1, none⟩ = some (.int .i64 po) := fun m => Blk.cell (HeldW_spec m) 1
          have j2 : ∀ m : Held (fun W => Blk W N 30 #[.int .u64 kd, .int .i64 po, .int .u8 (b.toNat : Int), .slice KA kl kc]), (HeldW m).cell? ⟨N, 2, none⟩ = some (.int .u8 (b.toNat : Int)) := fun m => Blk.cell (HeldW_spec m) 2
          have HC0 := Lib.hid (HN.out.drew)
          refine wp_region_mixD (fun W => Blk W N 30 #[.int .u64 kd, .int .i64 po, .int .u8 (b.toNat : Int), .slice KA kl kc]) [(0, true), (1, true), (2, true), (3, true), (4, true), (5, false), (6, false), (7, false)] (by kernel_rfl) (by kernel_rfl) ?_
          simp only [pickP, List.filterMap_cons, List.filterMap_nil, List.getElem?_toArray, List.getElem?_cons_succ, List.getElem?_cons_zero, Option.map_some]
          repeat (apply mixD_first; apply Exists.intro; refine ⟨fun m => ?_, HC0.out, ?_⟩; · (go_big_quiet_step (fail); exact wpQuiet_nil rfl))
          refine mixD_forced HC0.out ?_
          go_wp2_with fail
          refine (sector_any b _).mono ?_
          rintro e w3 ⟨rfl, hb3⟩
          have HB3 := Lib.hid (And.intro (HDR.out.1.below hb3) (And.intro HDR.out.2.1 (And.intro (HDR.out.2.2.1.trans (hb3.mono HDR.out.2.2.1.size)) HDR.out.2.2.2)))
          have HC3 := Lib.hid (show Blk w3 N 30 #[.int .u64 kd, .int .i64 po, .int .u8 (b.toNat : Int), .slice KA kl kc] from HC0.out.below hb3 HC0.out.lt); clear hb3
          obtain ⟨bs3, bw3, fS3, fW3, hdi3⟩ := HB3.out.1
          have hfr : ¬ F N := fun h => HNF.out h
          have HW := Lib.hid (devWrite_any hdi3 HFU.out.ok (by have := HB3.out.2.2.2; omega) (by have := HFU.out.ops; omega) po (secS b)); clear hdi3 HDR
          go_wp2_with fail
          show mixD _ _ _ _ _ _ _
          refine mixD_forced HC3.out ?_
          go_wp2_with fail
          refine HW.out.mono ?_
          rintro e w4 ⟨rfl, ⟨F4, hd4, hF4⟩, ht4⟩
          have hcase := HFU.out.write hlm0 po (secS b)
          have hlen := d1.write_len po (secS b)
          have hdone := HFD.out
          generalize d1.write po (secS b) = RR at *
          obtain ⟨why, d4⟩ := RR
          simp only at hcase hlen hd4
          have HD4 := Lib.hid (And.intro hd4 (And.intro (fun j hj => (hF4 j hj).elim (fun h => HB3.out.2.1 j h) (fun h => Nat.le_trans HB3.out.2.2.1.size h) : ∀ j, F4 j → w.heap.size ≤ j) (And.intro (HB3.out.2.2.1.trans (ht4.to_below HB3.out.2.1 HB3.out.2.2.1.size)) (show d4.wet.length ≤ i + 1 from by have := HB3.out.2.2.2; omega))))
          have HC4 := Lib.hid (show Blk w4 N 30 #[.int .u64 kd, .int .i64 po, .int .u8 (b.toNat : Int), .slice KA kl kc] from (ht4.block N HC3.out.lt hfr).trans HC3.out)
          clear HW hfr HC3 HC0 hd4 hF4 ht4 hlen HFU HFD HB3
          obtain ⟨bs4, bw4, fS4, fW4, hdi4⟩ := HD4.out.1
          have HOFF := Lib.hid (devOff_any hdi4); clear hdi4
          go_wp2_with fail
          show mixD _ _ _ _ _ _ _
          refine mixD_forced HC4.out ?_
          clear j1 j2
          go_wp2_with fail
          show mixD _ _ _ _ _ _ _
          refine mixD_nil ?_
          rcases hcase with ⟨hw0, hf1, ho1⟩ | ⟨hw0, hf1, ho1⟩
          · rw [hw0]
            have hle := hf1.le
            have HF := Lib.hid (And.intro hf1 ho1); clear hf1 ho1 hw0
            have HO := Lib.hid (HOFF.out.mono (fun e w' h => (⟨h.1.trans (by rw [HF.out.2]), h.2⟩ : e = .returned (.bool false) ∧ w4 = w'))); clear HOFF
            have w1 : IntKind.i64.wrap (done + 1) = done + 1 := IntWalk.i64_in _ (by omega)
            have hnd : ¬ ((fm : Int) < done + 1) := by omega
            clear hle
            go_wp2_with fail
            refine HO.out.mono ?_
            rintro e _ ⟨rfl, rfl⟩
            go_wp2_with fail
            refine HO.out.mono ?_
            rintro e _ ⟨rfl, rfl⟩
            go_wp2_with fail
            go_roundw
            case rel => exact ⟨i + 1, done + 1, d4, F4, by omega, by go_num, rfl, HD4.out.1, HF.out.1, HD4.out.2.1, HD4.out.2.2.1, HD4.out.2.2.2, by omega⟩
            case measure => simp [intOf]; omega
          · have hle := hf1.le
            have hnd : ¬ ((fm : Int) < done) := by omega
            have hoe := hf1.off
            have hn0 : (why == 0) = false := by simpa using hw0
            by_cases ho : d4.off = true
            · have h10 : why = 10 := ho1.2 ho
              have hde : done = fm := hoe ho
              have hne : (done != (fm : Int)) = false := by rw [hde]; simp
              subst h10
              have HF := Lib.hid (And.intro hf1 hdone); clear hf1 hw0 ho1 hoe hle hde
              have HO := Lib.hid (HOFF.out.mono (fun e w' h => (⟨h.1.trans (by rw [ho]), h.2⟩ : e = .returned (.bool true) ∧ w4 = w'))); clear HOFF ho
              go_wp2_with fail
              refine HO.out.mono ?_
              rintro e _ ⟨rfl, rfl⟩
              go_wp2_with fail
              refine HO.out.mono ?_
              rintro e _ ⟨rfl, rfl⟩
              go_wp2_with fail
              go_roundw
              case rel => exact ⟨i + 1, done, d4, F4, by omega, by go_num, rfl, HD4.out.1, HF.out.1, HD4.out.2.1, HD4.out.2.2.1, HD4.out.2.2.2, by have := HF.out.2; omega⟩
              case measure => simp [intOf]; omega
            · have ho' : d4.off = false := by simpa using ho
              have h10 : (why == 10) = false := by
                rw [beq_eq_false_iff_ne]
                intro h
                exact ho (ho1.1 h)
              have HF := Lib.hid (And.intro hf1 hdone); clear hf1 hw0 ho1 hoe hle
              have HO := Lib.hid (HOFF.out.mono (fun e w' h => (⟨h.1.trans (by rw [ho']), h.2⟩ : e = .returned (.bool false) ∧ w4 = w'))); clear HOFF ho ho'
              go_wp2_with fail
              refine HO.out.mono ?_
              rintro e _ ⟨rfl, rfl⟩
              go_wp2_with fail
              refine HO.out.mono ?_
              rintro e _ ⟨rfl, rfl⟩
              go_wp2_with fail
              go_roundw
              case rel => exact ⟨i + 1, done, d4, F4, by omega, by go_num, rfl, HD4.out.1, HF.out.1, HD4.out.2.1, HD4.out.2.2.1, HD4.out.2.2.2, by have := HF.out.2; omega⟩
              case measure => simp [intOf]; omega
        · skip
          -- a flush
          obtain ⟨bs3, bw3, fS3, fW3, hdi3⟩ := HB.out.1
          have HW := Lib.hid (devFlush_any hdi3 HFU.out.ok (by have := HB.out.2.2.2; omega) (by have := HFU.out.ops; omega)); clear hdi3
          go_wp2_with fail
          refine HW.out.mono ?_
          rintro e w4 ⟨rfl, ⟨F4, hd4, hF4⟩, ht4⟩
          have hcase := HFU.out.flush hlm0
          have hlen := d1.flush_len
          have hdone := HFD.out
          generalize d1.flush = RR at *
          obtain ⟨why, d4⟩ := RR
          simp only at hcase hlen hd4
          have HD4 := Lib.hid (And.intro hd4 (And.intro (fun j hj => (hF4 j hj).elim (fun h => HB.out.2.1 j h) (fun h => Nat.le_trans HB.out.2.2.1.size h) : ∀ j, F4 j → w.heap.size ≤ j) (And.intro (HB.out.2.2.1.trans (ht4.to_below HB.out.2.1 HB.out.2.2.1.size)) (show d4.wet.length ≤ i + 1 from by have := HB.out.2.2.2; omega))))
          clear hd4 hF4 ht4 hlen HFU HFD HB
          obtain ⟨bs4, bw4, fS4, fW4, hdi4⟩ := HD4.out.1
          have HOFF := Lib.hid (devOff_any hdi4); clear hdi4
          clear HW
          rcases hcase with ⟨hw0, hf1, ho1⟩ | ⟨hw0, hf1, ho1⟩
          · rw [hw0]
            have hle := hf1.le
            have HF := Lib.hid (And.intro hf1 ho1); clear hf1 ho1 hw0
            have HO := Lib.hid (HOFF.out.mono (fun e w' h => (⟨h.1.trans (by rw [HF.out.2]), h.2⟩ : e = .returned (.bool false) ∧ w4 = w'))); clear HOFF
            have w1 : IntKind.i64.wrap (done + 1) = done + 1 := IntWalk.i64_in _ (by omega)
            have hnd : ¬ ((fm : Int) < done + 1) := by omega
            clear hle
            go_wp2_with fail
            refine HO.out.mono ?_
            rintro e _ ⟨rfl, rfl⟩
            go_wp2_with fail
            refine HO.out.mono ?_
            rintro e _ ⟨rfl, rfl⟩
            go_wp2_with fail
            go_roundw
            case rel => exact ⟨i + 1, done + 1, d4, F4, by omega, by go_num, rfl, HD4.out.1, HF.out.1, HD4.out.2.1, HD4.out.2.2.1, HD4.out.2.2.2, by omega⟩
            case measure => simp [intOf]; omega
          · have hle := hf1.le
            have hnd : ¬ ((fm : Int) < done) := by omega
            have hoe := hf1.off
            have hn0 : (why == 0) = false := by simpa using hw0
            by_cases ho : d4.off = true
            · have h10 : why = 10 := ho1.2 ho
              have hde : done = fm := hoe ho
              have hne : (done != (fm : Int)) = false := by rw [hde]; simp
              subst h10
              have HF := Lib.hid (And.intro hf1 hdone); clear hf1 hw0 ho1 hoe hle hde
              have HO := Lib.hid (HOFF.out.mono (fun e w' h => (⟨h.1.trans (by rw [ho]), h.2⟩ : e = .returned (.bool true) ∧ w4 = w'))); clear HOFF ho
              go_wp2_with fail
              refine HO.out.mono ?_
              rintro e _ ⟨rfl, rfl⟩
              go_wp2_with fail
              refine HO.out.mono ?_
              rintro e _ ⟨rfl, rfl⟩
              go_wp2_with fail
              go_roundw
              case rel => exact ⟨i + 1, done, d4, F4, by omega, by go_num, rfl, HD4.out.1, HF.out.1, HD4.out.2.1, HD4.out.2.2.1, HD4.out.2.2.2, by have := HF.out.2; omega⟩
              case measure => simp [intOf]; omega
            · have ho' : d4.off = false := by simpa using ho
              have h10 : (why == 10) = false := by
                rw [beq_eq_false_iff_ne]
                intro h
                exact ho (ho1.1 h)
              have HF := Lib.hid (And.intro hf1 hdone); clear hf1 hw0 ho1 hoe hle
              have HO := Lib.hid (HOFF.out.mono (fun e w' h => (⟨h.1.trans (by rw [ho']), h.2⟩ : e = .returned (.bool false) ∧ w4 = w'))); clear HOFF ho ho'
              go_wp2_with fail
              refine HO.out.mono ?_
              rintro e _ ⟨rfl, rfl⟩
              go_wp2_with fail
              refine HO.out.mono ?_
              rintro e _ ⟨rfl, rfl⟩
              go_wp2_with fail
              go_roundw
              case rel => exact ⟨i + 1, done, d4, F4, by omega, by go_num, rfl, HD4.out.1, HF.out.1, HD4.out.2.1, HD4.out.2.2.1, HD4.out.2.2.2, by have := HF.out.2; omega⟩
              case measure => simp [intOf]; omega
      · obtain rfl : i = n := by omega
        have hwl2 : d1.wet.length ≤ 1000000 := by omega
        have HB := Lib.hid (And.intro hda (And.intro hfui hold)); clear hda hlow hold hwl hfui
        obtain ⟨wo, hwo⟩ : ∃ wo, wo = wr := ⟨_, rfl⟩
        rw [← hwo] at HB ⊢
        clear hwo wr
        go_wp2_with fail
        go_loopw [14] (fun av wi => ∃ a : Int, av = .int .i64 a ∧ lm ≤ a ∧ a ≤ 12 ∧ DevAt wi F bd d1 ∧ Below w.heap.size w wi) (fun av _ => 12 - (intOf av).toNat)
        case atStart => exact ⟨lm, rfl, Int.le_refl _, by omega, HB.out.1, HB.out.2.2⟩
        case round =>
          obtain ⟨a, rfl, ha0, ha1, hda, hold⟩ := hrel
          by_cases halt : a < 12
          · have hrd := HB.out.2.1.read a (by omega) ha0 halt
            obtain ⟨bs1, bw1, fS1, fW1, hdi1⟩ := hda
            have hra := devRead_any hdi1 HB.out.2.1.ok hwl2 a (by omega) (by omega)
            rw [hrd] at hra
            have HR := Lib.hid (And.intro hra (And.intro (show DevAt wr F bd d1 from ⟨_, _, _, _, hdi1⟩) hold)); clear hra hdi1 hold hrd
            have wa : IntKind.i64.wrap (a + 1) = a + 1 := IntWalk.i64_in _ (by omega)
            go_wp2_with fail
            refine HR.out.1.mono ?_
            rintro e w5 ⟨rfl, hb5⟩
            have H5 := Lib.hid (And.intro (HR.out.2.1.below hb5) (HR.out.2.2.trans (hb5.mono HR.out.2.2.size))); clear hb5 HR
            go_wp2_with fail
            refine (sector0_any w5).mono ?_
            rintro e w6 ⟨rfl, hb6⟩
            have H6 := Lib.hid (And.intro (H5.out.1.below hb6) (H5.out.2.trans (hb6.mono H5.out.2.size))); clear hb6 H5
            go_wp2_with fail
            go_roundw
            case rel => exact ⟨a + 1, by go_num, by omega, by omega, H6.out.1, H6.out.2⟩
            case measure => simp [intOf]; omega
          · obtain ⟨bs1, bw1, fS1, fW1, hdi1⟩ := hda
            have hop := devOps_any hdi1
            have hope := HB.out.2.1.ops
            rw [hope] at hop
            have HO := Lib.hid hop
            have HX := Lib.hid hold; clear hop hope hdi1 hold
            go_wp2_with fail
            refine HO.out.mono ?_
            rintro e _ ⟨rfl, rfl⟩
            go_wp2_with fail
            refine (HLV.out _).mono ?_
            rintro e w7 ⟨rfl, hb7⟩
            have HE := Lib.hid (HX.out.trans (hb7.mono HX.out.size)); clear hb7
            go_wp2_with fail
            go_ret
            exact ⟨rfl, HE.out⟩
end Go.Proofs.Ytlogdionhgabdaa
