/- The main walk of DevSure. -/
import Derived.Test.YtlogdionhgabdaaDevSurePlain
import Derived.Test.YtlogdionhgabdaaDevTwo
import Derived.Test.YtlogdionhgabdaaChainD
set_option linter.unusedVariables false
set_option linter.unusedSimpArgs false
namespace Go.Proofs.Ytlogdionhgabdaa
open Go Go.RowKit
open Sw
structure Dw (w : World) (bd : Nat) (F : Nat → Prop) (d : Dv) (W : World) : Prop where
  dev : DevAt W F bd d
  low : ∀ i, F i → w.heap.size ≤ i
  old : Below w.heap.size w W
theorem Dw.below {w W W' : World} {bd : Nat} {F : Nat → Prop} {d : Dv} (h : Dw w bd F d W) (hb : Below W.heap.size W W') : Dw w bd F d W' := ⟨h.dev.below hb, h.low, h.old.trans (hb.mono h.old.size)⟩
theorem Dw.drew {w W : World} {bd : Nat} {F : Nat → Prop} {d : Dv} (h : Dw w bd F d W) : Dw w bd F d W.drew := h.below ((Below.refl _ W).drew)
theorem Dw.step {w W W' : World} {bd : Nat} {F F' : Nat → Prop} {d d' : Dv} (h : Dw w bd F d W) (hd : DevAt W' F' bd d') (hF : ∀ j, F' j → F j ∨ W.heap.size ≤ j) (ht : Turn F W W') : Dw w bd F' d' W' :=
  ⟨hd, fun i hi => (hF i hi).elim (fun hf => h.low i hf) (fun hs => Nat.le_trans h.old.size hs), h.old.trans (ht.to_below h.low h.old.size)⟩
theorem str_tb (u v : ByteArray) : (u.toList == v.toList) = decide (u = v) := by
  rw [← beq_toListBytes]
  cases u with
  | mk a =>
    cases v with
    | mk b =>
      show (a == b) = _
      by_cases h : a = b
      · subst h; simp
      · simp [h]
set_option maxRecDepth 100000 in
set_option maxHeartbeats 16000000 in
theorem devSure_main (w : World) (A : Option Addr) (n c : Nat) (l : List St17) (A2 : Option Addr) (n2 c2' : Nat) (l2 : List St17) (KV : Value) (keep : List Int) (hl : l.length = n) (hnc : n ≤ c) (hcm : c ≤ maxLen) (hsl : SlOf w 4 st17C A l) (hin : ∀ s ∈ l, St17In w s)
    (hl2 : l2.length = n2) (hnc2 : n2 ≤ c2') (hcm2 : c2' ≤ maxLen) (hsl2 : SlOf w 4 st17C A2 l2) (hin2 : ∀ s ∈ l2, St17In w s) (hkv : SlV w 1 intE KV keep) (hkb : ∀ x ∈ keep, -9223372036854775808 ≤ x ∧ x ≤ 9223372036854775807) :
    Calls Try.prog 5 #[.slice A n c, .slice A2 n2 c2', KV] w fun e w' => e = .returned (.bool true) ∧ Below w.heap.size w w' := by
  have hkm : keep.length ≤ maxLen := by
    obtain ⟨_, _, _, h1, h2, _⟩ := hkv
    exact Nat.le_trans h1 h2
  have HKV := Lib.hid (And.intro hkv (And.intro hkm hkb)); clear hkv hkm hkb
  unfold maxLen at hcm hcm2
  have HLV := Lib.hid (fun W => lives17_any W)
  by_cases hbig : 15 < n
  · have hb1 : (15 : Int) < n := by omega
    clear hsl hin hbig hsl2 hin2
    go_enter Try.func5, Try.ntmps5
    go_wp2_with fail
    refine (HLV.out _).mono ?_
    rintro e w9 ⟨rfl, hb9⟩
    go_wp2_with fail
    go_ret
    exact ⟨rfl, hb9⟩
  · by_cases hbig2 : 15 < n2
    · have hb1 : ¬ (15 : Int) < n := by omega
      have hb2 : (15 : Int) < n2 := by omega
      clear hsl hin hbig hsl2 hin2 hbig2
      go_enter Try.func5, Try.ntmps5
      go_wp2_with fail
      refine (HLV.out _).mono ?_
      rintro e w9 ⟨rfl, hb9⟩
      go_wp2_with fail
      go_ret
      exact ⟨rfl, hb9⟩
    · have hb1 : ¬ (15 : Int) < n := by omega
      have hb2 : ¬ (15 : Int) < n2 := by omega
      have HIN := Lib.hid (And.intro hl (And.intro hin hsl)); clear hl hin hsl hbig
      have HIN2 := Lib.hid (And.intro hl2 (And.intro hin2 hsl2)); clear hl2 hin2 hsl2 hbig2
      have HN0 := Lib.hid (devNew_any w 12)
      have tbH := Lib.hid str_tb
      go_enter Try.func5, Try.ntmps5
      go_wp2_with fail
      refine HN0.out.mono ?_
      rintro e w1 ⟨bd, F0, rfl, hd, hF, hb⟩
      have H1 := Lib.hid (show Dw w bd F0 (newD 12) w1 from ⟨hd, hF, hb⟩); clear hd hF hb HN0
      go_wp2_with fail
      go_loopw [33] (fun iv wr => ∃ (i : Nat) (d1 : Dv) (F : Nat → Prop), i ≤ n ∧ iv = .int .i64 i ∧ Dw w bd F d1 wr ∧ SuI i d1) (fun iv _ => n - (intOf iv).toNat)
      case atStart => exact ⟨0, _, F0, Nat.zero_le _, rfl, H1.out, SuI.start⟩
      case round =>
        obtain ⟨i, d1, F, hi, rfl, hdw, hsu⟩ := hrel
        clear H1
        by_cases hlt : i < n
        · skip
          have hiL : i < l.length := by rw [HIN.out.1]; exact hlt
          obtain ⟨ab, off, hA, hbb, hcs⟩ := (HIN.out.2.2.below hdw.old (Nat.le_refl _)) (by omega)
          have c0 := hcs i hiL 0 (by omega)
          have c1 := hcs i hiL 1 (by omega)
          have c2 := hcs i hiL 2 (by omega)
          have c3' := hcs i hiL 3 (by omega)
          simp only [st17C, List.getElem?_cons_succ, List.getElem?_cons_zero, Nat.add_zero] at c0 c1 c2 c3'
          subst hA
          clear hcs
          have hi1 : (i : Int) < n := by omega
          have hsin := HIN.out.2.1 l[i] (List.getElem_mem hiL)
          have htk : l.take (i + 1) = l.take i ++ [l[i]] := by rw [List.take_add_one, List.getElem?_eq_getElem hiL]; rfl
          obtain ⟨⟨kd, po, b, v, kp⟩, hx⟩ : ∃ x, l[i] = x := ⟨_, rfl⟩
          rw [hx] at htk
          simp only [hx] at c0 c1 c2 c3' hsin
          clear hx
          have hpo0 : -9223372036854775808 ≤ po := hsin.pos.1
          have hpo1 : po ≤ 9223372036854775807 := hsin.pos.2
          obtain ⟨KA, kc, hkv, _⟩ := id hsin.slv
          simp only at hkv
          subst hkv
          obtain ⟨kl, hkl⟩ : ∃ kl, kp.length = kl := ⟨_, rfl⟩
          rw [hkl] at c3' htk
          have HTK := Lib.hid htk
          try rw [hkl]
          clear hsin htk hkl
          obtain ⟨WB, hWB⟩ : ∃ WB, wr.alloc (.cells #[.int .u64 kd, .int .i64 po, .int .u8 (b.toNat : Int), .slice KA kl kc] 30) = WB := ⟨_, rfl⟩
          obtain ⟨N, hNN⟩ : ∃ N, wr.heap.size = N := ⟨_, rfl⟩
          have hal : Below wr.heap.size wr WB := by rw [← hWB]; exact (Below.refl _ _).alloc (Nat.le_refl _) _
          have HN := Lib.hid (show Blk WB N 30 #[.int .u64 kd, .int .i64 po, .int .u8 (b.toNat : Int), .slice KA kl kc] from by rw [← hWB, ← hNN]; exact Blk.new wr _ _)
          have HNF := Lib.hid (show ¬ F N from fun h => by have := hdw.dev.lt N h; omega)
          have HB := Lib.hid (hdw.below hal)
          have HSU := Lib.hid hsu
          clear hdw hsu hal
          have j1 : ∀ m : Held (fun W => Blk W N 30 #[.int .u64 kd, .int .i64 po, .int .u8 (b.toNat : Int), .slice KA kl kc]), (HeldW m).cell? ⟨N, 1, none⟩ = some (.int .i64 po) := fun m => Blk.cell (HeldW_spec m) 1
          have j2 : ∀ m : Held (fun W => Blk W N 30 #[.int .u64 kd, .int .i64 po, .int .u8 (b.toNat : Int), .slice KA kl kc]), (HeldW m).cell? ⟨N, 2, none⟩ = some (.int .u8 (b.toNat : Int)) := fun m => Blk.cell (HeldW_spec m) 2
          go_upto_region 7 with fail
          try rw [hWB]
          try rw [hNN]
          clear hWB hNN c0 c1 c2 c3'
          have HC0 := Lib.hid HN.out.drew
          have HBD := Lib.hid HB.out.drew; clear HB
          refine wp_region_mixD (fun W => Blk W N 30 #[.int .u64 kd, .int .i64 po, .int .u8 (b.toNat : Int), .slice KA kl kc]) [(0, true), (1, true), (2, true), (3, true), (4, true), (5, false), (6, false)] (by kernel_rfl) (by kernel_rfl) ?_
          simp only [pickP, List.filterMap_cons, List.filterMap_nil, List.getElem?_toArray, List.getElem?_cons_succ, List.getElem?_cons_zero, Option.map_some]
          repeat (apply mixD_first; apply Exists.intro; refine ⟨fun m => ?_, HC0.out, ?_⟩; · (go_big_quiet_step (fail); exact wpQuiet_nil rfl))
          refine mixD_forced HC0.out ?_
          go_wp2_with fail
          refine (sector_any b _).mono ?_
          rintro e w3 ⟨rfl, hb3⟩
          have HB3 := Lib.hid (HBD.out.below hb3)
          have HC3 := Lib.hid (show Blk w3 N 30 #[.int .u64 kd, .int .i64 po, .int .u8 (b.toNat : Int), .slice KA kl kc] from HC0.out.below hb3 HC0.out.lt)
          clear hb3 HBD
          obtain ⟨bs3, bw3, fS3, fW3, hdi3⟩ := HB3.out.dev
          have HW := Lib.hid (devWrite_any hdi3 HSU.out.ok (by have := HSU.out.wl; omega) (by have := HSU.out.op; omega) po (secS b)); clear hdi3
          go_wp2_with fail
          show mixD _ _ _ _ _ _ _
          refine mixD_forced HC3.out ?_
          go_wp2_with fail
          refine HW.out.mono ?_
          rintro e w4 ⟨rfl, ⟨F4, hd4, hF4⟩, ht4⟩
          have HD4 := Lib.hid (HB3.out.step hd4 hF4 ht4)
          clear hd4 hF4 ht4 HW HB3 HC3 HC0 j1 j2
          have HS4 := Lib.hid (HSU.out.write po b)
          go_wp2_with fail
          show mixD _ _ _ _ _ _ _
          refine mixD_nil ?_
          go_wp2_with fail
          go_roundw
          case rel => exact ⟨i + 1, _, F4, by omega, by go_num, HD4.out, HS4.out.1⟩
          case measure => simp [intOf]; omega
        · obtain rfl : n = i := by omega
          obtain ⟨w5, hw5⟩ : ∃ w5, w5 = wr := ⟨_, rfl⟩
          rw [← hw5] at hdw ⊢
          clear hw5 wr
          obtain ⟨bs, bw, fS, fW, hdi⟩ := hdw.dev
          have HW := Lib.hid (devFlush_any hdi hsu.ok (by have := hsu.wl; omega) (by have := hsu.op; omega)); clear hdi
          have HF := Lib.hid hsu.flush
          have HD := Lib.hid hdw; clear hdw hsu
          go_wp2_with fail
          refine HW.out.mono ?_
          rintro e w6 ⟨rfl, ⟨F6, hd6, hF6⟩, ht6⟩
          have hdw6 := HD.out.step hd6 hF6 ht6
          obtain ⟨d2, hd2⟩ : ∃ d2, d1.flush.2 = d2 := ⟨_, rfl⟩
          rw [hd2] at hdw6 HF
          obtain ⟨W7, hW7⟩ : ∃ W7, w6.alloc (.cells #[.string ⟨#[]⟩, .string ⟨#[]⟩, .string ⟨#[]⟩, .string ⟨#[]⟩, .string ⟨#[]⟩, .string ⟨#[]⟩, .string ⟨#[]⟩, .string ⟨#[]⟩, .string ⟨#[]⟩, .string ⟨#[]⟩, .string ⟨#[]⟩, .string ⟨#[]⟩] 47) = W7 := ⟨_, rfl⟩
          obtain ⟨NS, hNS⟩ : ∃ NS, w6.heap.size = NS := ⟨_, rfl⟩
          have hal : Below w6.heap.size w6 W7 := by rw [← hW7]; exact (Below.refl _ _).alloc (Nat.le_refl _) _
          have hsb7 : Blk W7 NS 47 (arrS d2.sure 0) := by rw [← hW7, ← hNS, arrS_zero]; exact Blk.new w6 _ _
          obtain ⟨S, hS⟩ : ∃ S, d2.sure = S := ⟨_, rfl⟩
          rw [hS] at hsb7
          have H7 := Lib.hid (And.intro (hdw6.below hal) (And.intro hsb7 (And.intro HF.out.2.1 (And.intro HF.out.2.2 (And.intro hS (show ∀ j, F6 j → j < NS from fun j hj => by have := hdw6.dev.lt j hj; omega))))))
          have hnsw : w.heap.size ≤ NS := by have := hdw6.old.size; omega
          clear hd6 hF6 ht6 hdw6 hd2 hal hsb7 hS HW HD HF
          go_upto_region 11 with fail
          try rw [hW7]
          try rw [hNS]
          clear hW7 hNS
          go_wp2_with fail
          go_loopw [47] (fun av wr => ∃ a : Nat, a ≤ 12 ∧ av = .int .i64 a ∧ Dw w bd F6 d2 wr ∧ Blk wr NS 47 (arrS S a)) (fun av _ => 12 - (intOf av).toNat)
          case atStart => exact ⟨0, Nat.zero_le _, rfl, H7.out.1, H7.out.2.1⟩
          case round =>
            obtain ⟨a, ha, rfl, hdw, hsb⟩ := hrel
            by_cases hlta : a < 12
            · have ha1 : (a : Int) < 12 := by omega
              obtain ⟨bs, bw, fS, fW, hdi⟩ := hdw.dev
              have hra := devRead_any hdi H7.out.2.2.1.ok (by rw [H7.out.2.2.2.1]; exact Nat.zero_le _) a (by omega) (by omega)
              rw [H7.out.2.2.1.read H7.out.2.2.2.1 a hlta, H7.out.2.2.2.2.1] at hra
              have HR := Lib.hid hra
              have HD := Lib.hid (And.intro hdw hsb); clear hra hdi hdw hsb
              go_wp2_with fail
              refine HR.out.mono ?_
              rintro e w8 ⟨rfl, hb8⟩
              have hsb8 := HD.out.2.below hb8 HD.out.2.lt
              have q := hsb8.cell a
              have p := hsb8.frozen a
              rw [arrS_get S a a hlta, if_neg (Nat.lt_irrefl _)] at q
              have HD8 := Lib.hid (And.intro (HD.out.1.below hb8) hsb8); clear hb8 hsb8 HD HR
              obtain ⟨sx, hsx⟩ : ∃ sx, S.getD a zS = sx := ⟨_, rfl⟩
              have hset := arrS_set S a hlta
              rw [hsx] at hset
              have hdv : DevAt (w8.setCell ⟨NS, a, none⟩ (.string sx)) F6 bd d2 := HD8.out.1.dev.turn ((Turn.refl (fun j => j = NS) w8).put ⟨NS, a, none⟩ rfl (.string sx)) (fun j hj e => by have := H7.out.2.2.2.2.2 j hj; omega)
              have hbl : Blk (w8.setCell ⟨NS, a, none⟩ (.string sx)) NS 47 (arrS S (a + 1)) := by rw [← hset]; exact HD8.out.2.put a _
              have hol : Below w.heap.size w (w8.setCell ⟨NS, a, none⟩ (.string sx)) := HD8.out.1.old.trans (((Turn.refl (fun j => j = NS) w8).put ⟨NS, a, none⟩ rfl (.string sx)).to_below (fun j hj => by omega) HD8.out.1.old.size)
              have HE := Lib.hid (And.intro (show Dw w bd F6 d2 (w8.setCell ⟨NS, a, none⟩ (.string sx)) from ⟨hdv, HD8.out.1.low, hol⟩) hbl); clear hdv hbl hol hset
              try rw [hsx]
              clear hsx
              go_wp2_with fail
              go_roundw
              case rel => exact ⟨a + 1, by omega, by go_num, HE.out.1, HE.out.2⟩
              case measure => simp [intOf]; omega
            · obtain rfl : a = 12 := by omega
              obtain ⟨w9, hw9⟩ : ∃ w9, w9 = wr := ⟨_, rfl⟩
              rw [← hw9] at hdw hsb ⊢
              clear hw9 wr
              have H9 := Lib.hid (And.intro hdw hsb); clear hdw hsb
              go_wp2_with fail
              go_loopw [58] (fun iv wr => ∃ (j : Nat) (d1 : Dv) (F : Nat → Prop), j ≤ n2 ∧ iv = .int .i64 j ∧ Dw w bd F d1 wr ∧ SuI (n + 1 + j) d1 ∧ d1.sure = S ∧ (∀ e ∈ d1.wet, ∃ s ∈ l2.take j, s.pos = e.1 ∧ e.2 = secS s.b) ∧ Blk wr NS 47 (arrS S 12) ∧ ¬ F NS) (fun iv _ => n2 - (intOf iv).toNat)
              case atStart => exact ⟨0, d2, F6, Nat.zero_le _, rfl, H9.out.1, H7.out.2.2.1, H7.out.2.2.2.2.1, (fun e he => by rw [H7.out.2.2.2.1] at he; cases he), H9.out.2, fun h => by have := H7.out.2.2.2.2.2 NS h; omega⟩
              case round =>
                clear H9 H7
                obtain ⟨i, d1, F, hi, rfl, hdw, hsu, hsS, hwr, hsb, hnf⟩ := hrel
                by_cases hlt : i < n2
                · skip
                  have hiL : i < l2.length := by rw [HIN2.out.1]; exact hlt
                  obtain ⟨ab, off, hA, hbb, hcs⟩ := (HIN2.out.2.2.below hdw.old (Nat.le_refl _)) (by omega)
                  have c0 := hcs i hiL 0 (by omega)
                  have c1 := hcs i hiL 1 (by omega)
                  have c2 := hcs i hiL 2 (by omega)
                  have c3' := hcs i hiL 3 (by omega)
                  simp only [st17C, List.getElem?_cons_succ, List.getElem?_cons_zero, Nat.add_zero] at c0 c1 c2 c3'
                  subst hA
                  clear hcs
                  have hi1 : (i : Int) < n2 := by omega
                  have hsin := HIN2.out.2.1 l2[i] (List.getElem_mem hiL)
                  have htk : l2.take (i + 1) = l2.take i ++ [l2[i]] := by rw [List.take_add_one, List.getElem?_eq_getElem hiL]; rfl
                  obtain ⟨⟨kd, po, b, v, kp⟩, hx⟩ : ∃ x, l2[i] = x := ⟨_, rfl⟩
                  rw [hx] at htk
                  simp only [hx] at c0 c1 c2 c3' hsin
                  clear hx
                  have hpo0 : -9223372036854775808 ≤ po := hsin.pos.1
                  have hpo1 : po ≤ 9223372036854775807 := hsin.pos.2
                  obtain ⟨KA, kc, hkv, _⟩ := id hsin.slv
                  simp only at hkv
                  subst hkv
                  obtain ⟨kl, hkl⟩ : ∃ kl, kp.length = kl := ⟨_, rfl⟩
                  rw [hkl] at c3' htk
                  have HTK := Lib.hid htk
                  try rw [hkl]
                  clear hsin htk hkl
                  obtain ⟨WB, hWB⟩ : ∃ WB, wr.alloc (.cells #[.int .u64 kd, .int .i64 po, .int .u8 (b.toNat : Int), .slice KA kl kc] 30) = WB := ⟨_, rfl⟩
                  obtain ⟨N, hNN⟩ : ∃ N, wr.heap.size = N := ⟨_, rfl⟩
                  have hal : Below wr.heap.size wr WB := by rw [← hWB]; exact (Below.refl _ _).alloc (Nat.le_refl _) _
                  have HN := Lib.hid (show Blk WB N 30 #[.int .u64 kd, .int .i64 po, .int .u8 (b.toNat : Int), .slice KA kl kc] from by rw [← hWB, ← hNN]; exact Blk.new wr _ _)
                  have HNF := Lib.hid (show ¬ F N from fun h => by have := hdw.dev.lt N h; omega)
                  have HB := Lib.hid (hdw.below hal)
                  have HSU := Lib.hid hsu
                  have HSB := Lib.hid (hsb.below hal hsb.lt)
                  have HNS := Lib.hid hnf
                  have HW0 := Lib.hid (And.intro hsS hwr); clear hsb hnf hsS hwr
                  clear hdw hsu hal
                  have j1 : ∀ m : Held (fun W => Blk W N 30 #[.int .u64 kd, .int .i64 po, .int .u8 (b.toNat : Int), .slice KA kl kc]), (HeldW m).cell? ⟨N, 1, none⟩ = some (.int .i64 po) := fun m => Blk.cell (HeldW_spec m) 1
                  have j2 : ∀ m : Held (fun W => Blk W N 30 #[.int .u64 kd, .int .i64 po, .int .u8 (b.toNat : Int), .slice KA kl kc]), (HeldW m).cell? ⟨N, 2, none⟩ = some (.int .u8 (b.toNat : Int)) := fun m => Blk.cell (HeldW_spec m) 2
                  go_upto_region 19 with fail
                  try rw [hWB]
                  try rw [hNN]
                  clear hWB hNN c0 c1 c2 c3'
                  have HC0 := Lib.hid HN.out.drew
                  have HBD := Lib.hid HB.out.drew; clear HB
                  refine wp_region_mixD (fun W => Blk W N 30 #[.int .u64 kd, .int .i64 po, .int .u8 (b.toNat : Int), .slice KA kl kc]) [(0, true), (1, true), (2, true), (3, true), (4, true), (5, false), (6, false)] (by kernel_rfl) (by kernel_rfl) ?_
                  simp only [pickP, List.filterMap_cons, List.filterMap_nil, List.getElem?_toArray, List.getElem?_cons_succ, List.getElem?_cons_zero, Option.map_some]
                  repeat (apply mixD_first; apply Exists.intro; refine ⟨fun m => ?_, HC0.out, ?_⟩; · (go_big_quiet_step (fail); exact wpQuiet_nil rfl))
                  refine mixD_forced HC0.out ?_
                  go_wp2_with fail
                  refine (sector_any b _).mono ?_
                  rintro e w3 ⟨rfl, hb3⟩
                  have HB3 := Lib.hid (HBD.out.below hb3)
                  have HC3 := Lib.hid (show Blk w3 N 30 #[.int .u64 kd, .int .i64 po, .int .u8 (b.toNat : Int), .slice KA kl kc] from HC0.out.below hb3 HC0.out.lt)
                  have HSB3 := Lib.hid (HSB.out.drew.below hb3 HSB.out.lt); clear HSB
                  clear hb3 HBD
                  obtain ⟨bs3, bw3, fS3, fW3, hdi3⟩ := HB3.out.dev
                  have HW := Lib.hid (devWrite_any hdi3 HSU.out.ok (by have := HSU.out.wl; omega) (by have := HSU.out.op; omega) po (secS b)); clear hdi3
                  go_wp2_with fail
                  show mixD _ _ _ _ _ _ _
                  refine mixD_forced HC3.out ?_
                  go_wp2_with fail
                  refine HW.out.mono ?_
                  rintro e w4 ⟨rfl, ⟨F4, hd4, hF4⟩, ht4⟩
                  have HD4 := Lib.hid (HB3.out.step hd4 hF4 ht4)
                  have HSB4 := Lib.hid (show Blk w4 NS 47 (arrS S 12) from (ht4.block NS HSB3.out.lt HNS.out).trans HSB3.out)
                  have HNF4 := Lib.hid (show ¬ F4 NS from fun h => (hF4 NS h).elim HNS.out (fun h => by have := HSB3.out.lt; omega)); clear HSB3
                  clear hd4 hF4 ht4 HW HB3 HC3 HC0 j1 j2
                  have HS4 := Lib.hid (HSU.out.write po b)
                  go_wp2_with fail
                  show mixD _ _ _ _ _ _ _
                  refine mixD_nil ?_
                  go_wp2_with fail
                  go_roundw
                  case rel => (repeat apply Exists.intro); exact ⟨⟨i + 1, _, F4, by omega, by go_num, HD4.out, HS4.out.1, HS4.out.2.1.trans HW0.out.1, (fun e he => by
                          rw [HTK.out]
                          rcases HS4.out.2.2 e he with h | h
                          · obtain ⟨s, hs, h1⟩ := HW0.out.2 e h
                            exact ⟨s, List.mem_append_left _ hs, h1⟩
                          · exact ⟨_, List.mem_append_right _ (List.mem_singleton.2 rfl), by rw [h], by rw [h]⟩), HSB4.out, HNF4.out⟩, rfl⟩
                  case measure => simp [intOf]; omega
                · obtain rfl : n2 = i := by omega
                  have ht2 : l2.take n2 = l2 := List.take_of_length_le (by rw [HIN2.out.1]; exact Nat.le_refl _)
                  rw [ht2] at hwr
                  clear ht2
                  obtain ⟨w12, hw12⟩ : ∃ w12, w12 = wr := ⟨_, rfl⟩
                  rw [← hw12] at hdw hsb ⊢
                  clear hw12 wr
                  obtain ⟨bs, bw, fS, fW, hdi⟩ := hdw.dev
                  have HC := Lib.hid (devClone_any hdi hsu.ok (by have := hsu.wl; omega)); clear hdi
                  have hr5 := hsu.restart keep
                  rw [hsS] at hr5
                  have HR5 := Lib.hid hr5; clear hr5
                  have hok1 := hsu.ok
                  have hwl1 : d1.wet.length ≤ 1000000 := by have := hsu.wl; omega
                  have hflt := hdw.dev.lt
                  have HD := Lib.hid (And.intro hdw (And.intro hsb (And.intro hnf (And.intro hwr (And.intro hok1 (And.intro hwl1 hflt)))))); clear hdw hsb hnf hwr hok1 hwl1 hflt hsu hsS
                  go_wp2_with fail
                  refine HC.out.mono ?_
                  rintro e w13 ⟨be, G, rfl, he, hG, hb13⟩
                  have hdw13 := HD.out.1.below hb13
                  have hsb13 := HD.out.2.1.below hb13 HD.out.2.1.lt
                  have hdis : ∀ i, G i → ¬ F i := fun i hg hf => by have := HD.out.2.2.2.2.2.2 i hf; have := hG i hg; omega
                  have hgn : ¬ G NS := fun h => by have := hG NS h; have := HD.out.2.1.lt; omega
                  have hlG : ∀ i, G i → w.heap.size ≤ i := fun i hi => Nat.le_trans HD.out.1.old.size (hG i hi)
                  have H13 := Lib.hid (And.intro hdw13 (And.intro he (And.intro hsb13 (And.intro hdis (And.intro hgn hlG))))); clear hdw13 he hsb13 hG hb13 HC hdis hgn hlG
                  obtain ⟨bs, bw, fS, fW, hdi⟩ := H13.out.1.dev
                  have HRS := Lib.hid (devRestart_any hdi HD.out.2.2.2.2.1 HD.out.2.2.2.2.2.1 KV keep HKV.out.2.1 HKV.out.2.2 (fun W hW => slv_past HKV.out.1 H13.out.1.old H13.out.1.low hW)); clear hdi
                  go_wp2_with fail
                  refine HRS.out.mono ?_
                  rintro e w14 ⟨rfl, ⟨F5, hd5, hF5⟩, ht5⟩
                  have hdw14 := H13.out.1.step hd5 hF5 ht5
                  have he14 := H13.out.2.1.turn ht5 H13.out.2.2.2.1
                  have hsb14 : Blk w14 NS 47 (arrS S 12) := (ht5.block NS H13.out.2.2.1.lt HD.out.2.2.1).trans H13.out.2.2.1
                  have hdis5 : ∀ i, F5 i → ¬ G i := fun i hf hg => (hF5 i hf).elim (fun h => H13.out.2.2.2.1 i hg h) (fun h => by have := H13.out.2.1.lt i hg; omega)
                  have H14 := Lib.hid (And.intro hdw14 (And.intro he14 (And.intro hsb14 hdis5))); clear hd5 hF5 ht5 hdw14 he14 hsb14 hdis5 HRS
                  obtain ⟨bs, bw, fS, fW, hdi⟩ := H14.out.2.1
                  have HRS := Lib.hid (devRestart_any hdi HD.out.2.2.2.2.1 HD.out.2.2.2.2.2.1 KV keep HKV.out.2.1 HKV.out.2.2 (fun W hW => slv_past HKV.out.1 H14.out.1.old H13.out.2.2.2.2.2 hW)); clear hdi
                  go_wp2_with fail
                  refine HRS.out.mono ?_
                  rintro e w15 ⟨rfl, ⟨G5, he5, hG5⟩, ht5⟩
                  have hd15 := H14.out.1.dev.turn ht5 H14.out.2.2.2
                  have hol15 := H14.out.1.old.trans (ht5.to_below H13.out.2.2.2.2.2 H14.out.1.old.size)
                  have hsb15 : Blk w15 NS 47 (arrS S 12) := (ht5.block NS H14.out.2.2.1.lt H13.out.2.2.2.2.1).trans H14.out.2.2.1
                  have H15 := Lib.hid (And.intro hd15 (And.intro he5 (And.intro hsb15 hol15))); clear hd15 he5 hsb15 hol15 hG5 ht5 HRS H14
                  obtain ⟨d5, hd5⟩ : ∃ d5, d1.restart keep = d5 := ⟨_, rfl⟩
                  rw [hd5] at HR5 H15
                  clear hd5
                  go_wp2_with fail
                  go_loopw [78] (fun av wr => ∃ a : Nat, a ≤ 12 ∧ av = .int .i64 a ∧ DevAt wr F5 bd d5 ∧ DevAt wr G5 be d5 ∧ Blk wr NS 47 (arrS S 12) ∧ Below w.heap.size w wr) (fun av _ => 12 - (intOf av).toNat)
                  case atStart => exact ⟨0, Nat.zero_le _, rfl, H15.out.1, H15.out.2.1, H15.out.2.2.1, H15.out.2.2.2⟩
                  case round =>
                    obtain ⟨a, ha, rfl, hda, hde, hsb, hold⟩ := hrel
                    clear H15 H13
                    obtain ⟨wo, hwo⟩ : ∃ wo, wo = wr := ⟨_, rfl⟩
                    rw [← hwo] at hda hde hsb hold ⊢
                    clear hwo wr
                    by_cases hlta : a < 12
                    · have ha1 : (a : Int) < 12 := by omega
                      have hfact := HR5.out.2.2.2 a hlta
                      obtain ⟨bs, bw, fS, fW, hdi⟩ := hda
                      have hra := devRead_any hdi HR5.out.1 (by rw [HR5.out.2.1]; exact Nat.zero_le _) a (by omega) (by omega)
                      obtain ⟨q, hq⟩ : ∃ q, d5.read a = q := ⟨_, rfl⟩
                      rw [hq] at hra hfact
                      have hsm : (decide (q = S.getD a zS) || wroteB l2 a q) = true := by
                        rcases hfact.1 with h1 | h1
                        · rw [decide_eq_true h1]; rfl
                        · obtain ⟨s, hs, hp, hb⟩ := HD.out.2.2.2.1 _ (wetAt_mem h1)
                          have : wroteB l2 a q = true := by
                            unfold wroteB
                            rw [List.any_eq_true]
                            exact ⟨s, hs, by rw [decide_eq_true hp, decide_eq_true hb]; rfl⟩
                          rw [this, Bool.or_true]
                      have HR := Lib.hid hra
                      have HX := Lib.hid (And.intro (show DevAt wo F5 bd d5 from ⟨_, _, _, _, hdi⟩) (And.intro hde (And.intro hsb hold)))
                      have HQ := Lib.hid (And.intro hsm (And.intro hfact.2 hq)); clear hra hdi hde hsb hold hfact hsm hq
                      go_wp2_with fail
                      refine HR.out.mono ?_
                      rintro e w16 ⟨rfl, hb16⟩
                      have hsb16 := HX.out.2.2.1.below hb16 HX.out.2.2.1.lt
                      have z := hsb16.cell a
                      rw [arrS_get S 12 a hlta, if_pos hlta] at z
                      have H16 := Lib.hid (And.intro (HX.out.1.below hb16) (And.intro (HX.out.2.1.below hb16) (And.intro hsb16 (HX.out.2.2.2.trans (hb16.mono HX.out.2.2.2.size))))); clear hb16 hsb16 HX HR
                      have hqs := tbH.out q (S.getD a zS)
                      go_wp2_with fail
                      clear z hqs
                      go_loopw [17, 91] (fun bv jv wi => ∃ (j : Nat) (sm : Bool), j ≤ n2 ∧ jv = .int .i64 j ∧ bv = .bool sm ∧ sm = (decide (q = S.getD a zS) || wroteB (l2.take j) a q) ∧ DevAt wi F5 bd d5 ∧ DevAt wi G5 be d5 ∧ Blk wi NS 47 (arrS S 12) ∧ Below w.heap.size w wi) (fun _ jv _ => n2 - (intOf jv).toNat)
                      case atStart => exact ⟨0, _, Nat.zero_le _, rfl, rfl, by rw [tbH.out]; simp [wroteB], H16.out.1, H16.out.2.1, H16.out.2.2.1, H16.out.2.2.2⟩
                      case round =>
                        obtain ⟨j, sm, hj, rfl, rfl, hsm, hda, hde, hsb, hold⟩ := hrel
                        clear H16
                        by_cases hlt : j < n2
                        · skip
                          have hiL : j < l2.length := by rw [HIN2.out.1]; exact hlt
                          obtain ⟨ab, off, hA, hbb, hcs⟩ := (HIN2.out.2.2.below hold (Nat.le_refl _)) (by omega)
                          have c0 := hcs j hiL 0 (by omega)
                          have c1 := hcs j hiL 1 (by omega)
                          have c2 := hcs j hiL 2 (by omega)
                          have c3' := hcs j hiL 3 (by omega)
                          simp only [st17C, List.getElem?_cons_succ, List.getElem?_cons_zero, Nat.add_zero] at c0 c1 c2 c3'
                          subst hA
                          clear hcs
                          have hi1 : (j : Int) < n2 := by omega
                          have hsin := HIN2.out.2.1 l2[j] (List.getElem_mem hiL)
                          have htk : l2.take (j + 1) = l2.take j ++ [l2[j]] := by rw [List.take_add_one, List.getElem?_eq_getElem hiL]; rfl
                          obtain ⟨⟨kd, po, b, v, kp⟩, hx⟩ : ∃ x, l2[j] = x := ⟨_, rfl⟩
                          rw [hx] at htk
                          simp only [hx] at c0 c1 c2 c3' hsin
                          clear hx
                          have hpo0 : -9223372036854775808 ≤ po := hsin.pos.1
                          have hpo1 : po ≤ 9223372036854775807 := hsin.pos.2
                          obtain ⟨KA, kc, hkv, _⟩ := id hsin.slv
                          simp only at hkv
                          subst hkv
                          obtain ⟨kl, hkl⟩ : ∃ kl, kp.length = kl := ⟨_, rfl⟩
                          rw [hkl] at c3' htk
                          have HTK := Lib.hid htk
                          try rw [hkl]
                          clear hsin htk hkl
                          obtain ⟨WB, hWB⟩ : ∃ WB, wr.alloc (.cells #[.int .u64 kd, .int .i64 po, .int .u8 (b.toNat : Int), .slice KA kl kc] 30) = WB := ⟨_, rfl⟩
                          obtain ⟨N, hNN⟩ : ∃ N, wr.heap.size = N := ⟨_, rfl⟩
                          have hal : Below wr.heap.size wr WB := by rw [← hWB]; exact (Below.refl _ _).alloc (Nat.le_refl _) _
                          have hblk : Blk WB N 30 #[.int .u64 kd, .int .i64 po, .int .u8 (b.toNat : Int), .slice KA kl kc] := by rw [← hWB, ← hNN]; exact Blk.new wr _ _
                          have z1 := hblk.cell 1
                          have z2 := hblk.cell 2
                          simp at z1 z2
                          have HB := Lib.hid (And.intro (hda.below hal) (And.intro (hde.below hal) (And.intro (hsb.below hal hsb.lt) (hold.trans (hal.mono hold.size)))))
                          have hst := wroteB_snoc (l2.take j) ⟨kd, po, b, .slice KA kl kc, kp⟩ a q
                          rw [← HTK.out] at hst
                          have HST := Lib.hid hst
                          clear hda hde hsb hold hal hblk hst
                          go_upto_region 32 with fail
                          try rw [hWB]
                          try rw [hNN]
                          clear hWB hNN c0 c1 c2 c3'
                          cases hsm0 : sm with
                          | true =>
                            have hnew : (decide (q = S.getD a zS) || wroteB (l2.take (j + 1)) a q) = true := by
                              rw [HST.out, ← Bool.or_assoc, ← hsm, hsm0]
                              rfl
                            have HNW := Lib.hid hnew.symm; clear hnew hsm z1 z2
                            go_wp2_with fail
                            go_roundw
                            case rel => exact ⟨j + 1, true, by omega, by go_num, rfl, HNW.out, HB.out.1, HB.out.2.1, HB.out.2.2.1, HB.out.2.2.2⟩
                            case measure => simp [intOf]; omega
                          | false =>
                            rw [hsm0] at hsm
                            by_cases hpa : po = a
                            · have hnew : (decide (q = S.getD a zS) || wroteB (l2.take (j + 1)) a q) = decide (q = secS b) := by
                                rw [HST.out, ← Bool.or_assoc, ← hsm]
                                simp [hpa]
                              have HNW := Lib.hid hnew.symm; clear hnew hsm
                              have hpe : (po == (a : Int)) = true := by simpa using hpa
                              have hqb := tbH.out q (secS b)
                              subst hpa
                              go_wp2_with fail
                              refine (sector_any b _).mono ?_
                              rintro e w6 ⟨rfl, hb6⟩
                              have HB6 := Lib.hid (And.intro (HB.out.1.below hb6) (And.intro (HB.out.2.1.below hb6) (And.intro (HB.out.2.2.1.below hb6 HB.out.2.2.1.lt) (HB.out.2.2.2.trans (hb6.mono HB.out.2.2.2.size))))); clear hb6 HB z1 z2
                              go_wp2_with fail
                              go_roundw
                              case rel => exact ⟨j + 1, _, by omega, by go_num, rfl, HNW.out, HB6.out.1, HB6.out.2.1, HB6.out.2.2.1, HB6.out.2.2.2⟩
                              case measure => simp [intOf]; omega
                            · have hnew : (decide (q = S.getD a zS) || wroteB (l2.take (j + 1)) a q) = false := by
                                rw [HST.out, ← Bool.or_assoc, ← hsm]
                                simp [hpa]
                              have HNW := Lib.hid hnew.symm; clear hnew hsm
                              have hpe : (po == (a : Int)) = false := by simpa using hpa
                              clear hpa
                              go_wp2_with fail
                              go_roundw
                              case rel => exact ⟨j + 1, false, by omega, by go_num, rfl, HNW.out, HB.out.1, HB.out.2.1, HB.out.2.2.1, HB.out.2.2.2⟩
                              case measure => simp [intOf]; omega
                        · obtain rfl : j = n2 := by omega
                          have ht3 : l2.take j = l2 := List.take_of_length_le (by rw [HIN2.out.1]; exact Nat.le_refl _)
                          rw [ht3, HQ.out.1] at hsm
                          subst hsm
                          obtain ⟨bs, bw, fS, fW, hdi⟩ := hde
                          have hra := devRead_any hdi HR5.out.1 (by rw [HR5.out.2.1]; exact Nat.zero_le _) a (by omega) (by omega)
                          rw [HQ.out.2.2] at hra
                          have HR := Lib.hid hra
                          have HX := Lib.hid (And.intro hda (And.intro (show DevAt wr G5 be d5 from ⟨_, _, _, _, hdi⟩) (And.intro hsb hold))); clear hra hdi hda hsb hold ht3
                          have hqz := HQ.out.2.1
                          go_wp2_with fail
                          refine HR.out.mono ?_
                          rintro e w17 ⟨rfl, hb17⟩
                          have H17 := Lib.hid (And.intro (HX.out.1.below hb17) (And.intro (HX.out.2.1.below hb17) (And.intro (HX.out.2.2.1.below hb17 HX.out.2.2.1.lt) (HX.out.2.2.2.trans (hb17.mono HX.out.2.2.2.size))))); clear hb17 HX HR
                          go_wp2_with fail
                          go_roundw
                          case rel => exact ⟨a + 1, by omega, by go_num, H17.out.1, H17.out.2.1, H17.out.2.2.1, H17.out.2.2.2⟩
                          case measure => simp [intOf]; omega
                    · obtain rfl : a = 12 := by omega
                      have HE := Lib.hid (And.intro hda hold); clear hda hde hsb hold HD
                      go_wp2_with fail
                      refine (devLimitNil_any _ 1).mono ?_
                      rintro e _ ⟨rfl, rfl⟩
                      go_wp2_with fail
                      refine (devFuseNil_any _ 1).mono ?_
                      rintro e _ ⟨rfl, rfl⟩
                      go_wp2_with fail
                      refine (devRestartNil_any _ _).mono ?_
                      rintro e _ ⟨rfl, rfl⟩
                      have hal := (Below.refl wo.heap.size wo).alloc (Nat.le_refl _) (.cells #[.int .i64 1] 3)
                      have hda2 := HE.out.1.below hal
                      have hold2 := HE.out.2.trans (hal.mono HE.out.2.size)
                      obtain ⟨W9, hW9⟩ : ∃ W9, wo.alloc (.cells #[.int .i64 1] 3) = W9 := ⟨_, rfl⟩
                      rw [hW9] at hda2 hold2
                      try rw [hW9]
                      clear hW9 hal
                      obtain ⟨bs9, bw9, fS9, fW9, hdi9⟩ := hda2
                      have HP := Lib.hid (devPending_any hdi9 HR5.out.1 (by rw [HR5.out.2.1]; exact Nat.zero_le _))
                      have HX := Lib.hid (And.intro (show DevAt W9 F5 bd d5 from ⟨_, _, _, _, hdi9⟩) hold2); clear hdi9 hold2 HE
                      go_wp2_with fail
                      refine HP.out.mono ?_
                      rintro e w10 ⟨rfl, hb10⟩
                      have H10 := Lib.hid (And.intro (HX.out.1.below hb10) (HX.out.2.trans (hb10.mono HX.out.2.size))); clear hb10 HX HP
                      have hpl : (d5.wet.length : Int) = 0 := by rw [HR5.out.2.1]; rfl
                      obtain ⟨bsa, bwa, fSa, fWa, hdia⟩ := H10.out.1
                      have hof := devOff_any hdia
                      rw [HR5.out.2.2.1] at hof
                      have HOF := Lib.hid hof; clear hof hdia
                      go_wp2_with fail
                      refine HOF.out.mono ?_
                      rintro e _ ⟨rfl, rfl⟩
                      go_wp2_with fail
                      refine (sector0_any _).mono ?_
                      rintro e w11 ⟨rfl, hb11⟩
                      have H11 := Lib.hid (H10.out.2.trans (hb11.mono H10.out.2.size)); clear hb11 H10 HOF hpl
                      go_wp2_with fail
                      refine (devWriteNil_any _ 0 _).mono ?_
                      rintro e _ ⟨rfl, rfl⟩
                      go_wp2_with fail
                      refine (devFlushNil_any _).mono ?_
                      rintro e _ ⟨rfl, rfl⟩
                      go_wp2_with fail
                      refine (devReadNil_any _).mono ?_
                      rintro e _ ⟨rfl, rfl⟩
                      go_wp2_with fail
                      refine (devSizeNil_any _).mono ?_
                      rintro e _ ⟨rfl, rfl⟩
                      go_wp2_with fail
                      refine (devPendingNil_any _).mono ?_
                      rintro e _ ⟨rfl, rfl⟩
                      go_wp2_with fail
                      refine (devOpsNil_any _).mono ?_
                      rintro e _ ⟨rfl, rfl⟩
                      go_wp2_with fail
                      refine (devOffNil_any _).mono ?_
                      rintro e _ ⟨rfl, rfl⟩
                      go_wp2_with fail
                      refine (devCloneNil_any _).mono ?_
                      rintro e _ ⟨rfl, rfl⟩
                      go_wp2_with fail
                      refine (HLV.out _).mono ?_
                      rintro e w12 ⟨rfl, hb12⟩
                      have H12 := Lib.hid (H11.out.trans (hb12.mono H11.out.size)); clear hb12 H11
                      go_wp2_with fail
                      go_ret
                      exact ⟨rfl, H12.out⟩
end Go.Proofs.Ytlogdionhgabdaa
