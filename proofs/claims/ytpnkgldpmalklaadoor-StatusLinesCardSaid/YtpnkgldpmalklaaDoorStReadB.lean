/- The contract of status.Read: the whole. -/
import Derived.Test.YtpnkgldpmalklaaDoorStRead
set_option linter.unusedVariables false
set_option linter.unusedSimpArgs false
namespace Sw
open Go Go.RowKit
/-- the row of any line -/
def rdRow (s : ByteArray) : Array Value := if rdOk s = true then #[.string (rdP s), .int .i64 (rdV s), .int .i64 (rdC s)] else #[.string ⟨#[]⟩, .int .i64 0, .int .i64 0]
theorem rdRow_yes {s : ByteArray} (h : rdOk s = true) : rdRow s = #[.string (rdP s), .int .i64 (rdV s), .int .i64 (rdC s)] := if_pos h
theorem rdRow_no {s : ByteArray} (h : rdOk s = false) : rdRow s = #[.string ⟨#[]⟩, .int .i64 0, .int .i64 0] := if_neg (by rw [h]; simp)
theorem rdOk_of {s : ByteArray} {P : ByteArray} {V C : Int} (h1 : rdP s = P) (h2 : rdV s = V) (h3 : rdC s = C) : rdOk s = (decide (s ≠ ⟨#[]⟩) && decide (lineS P V C = s)) := by
  unfold rdOk
  rw [h1, h2, h3]
end Sw
namespace Go.Proofs.YtpnkgldpmalklaaDoor
open Go Go.RowKit
open Sw
set_option maxRecDepth 100000 in
set_option maxHeartbeats 8000000 in
theorem stRead_any (w : World) (m : Int) (s : ByteArray) (hs : s.size ≤ 90000) (hm : w.cell? ⟨0, 0, none⟩ = some (.int .i64 m)) :
    Calls Tryd.prog 6 #[.string s] w fun e w' => e = .returned (.tuple #[.agg (rdRow s), .bool (rdOk s)]) ∧ Below w.heap.size w w' := by
  have h0 := World.block_lt_of_cell? w _ hm
  have hR := Blk.new w 28 #[.string ⟨#[]⟩, .int .i64 0, .int .i64 0]
  have hb1 := (Below.refl w.heap.size w).alloc (Nat.le_refl _) (.cells #[.string ⟨#[]⟩, .int .i64 0, .int .i64 0] 28)
  have HCU := Lib.hid (fun W (t : ByteArray) (h : Below w.heap.size w W) (ht : t.size ≤ 90000) => (by
    have := Tryd.strings_Cut t ⟨#[32]⟩ m W (by omega) ((h.cell (p := ⟨0, 0, none⟩) h0).trans hm)
    exact this.mono fun e w' hx => ⟨hx.1, hx.2⟩ : Calls Tryd.prog 12 #[.string t, .string ⟨#[32]⟩] W fun e w' => e = .returned (.tuple #[.string (cut1 t), .string (cut2 t), .bool (Lib.cut t.data.toList [32]).2.2]) ∧ ∃ n, w' = W.drewN n))
  have HIX := Lib.hid (fun W (h : Below w.heap.size w W) => Tryd.strings_Index ⟨#[61, 60, 62, 33]⟩ (cut1 s) m W (by decide) ((h.cell (p := ⟨0, 0, none⟩) h0).trans hm))
  have hV : rdV s = max 0 (Lib.index [61, 60, 62, 33] (cut1 s).data.toList) := rfl
  have hib := index_hi [61, 60, 62, 33] (cut1 s).data.toList
  simp only [List.length_cons, List.length_nil] at hib
  have hPs := rdP_size s
  have hc2s := cut2_size s
  have hc22s := cut2_size (cut2 s)
  have hempty := strE s
  obtain ⟨V, hVV⟩ : ∃ V, rdV s = V := ⟨_, rfl⟩
  have hRP : rdP s = if V = 3 then cut2 (cut2 s) else cut2 s := by rw [← hVV]; rfl
  have hRC : rdC s = if V = 3 then wordC (cut1 (cut2 s)) else 0 := by rw [← hVV]; rfl
  rw [hVV] at hV
  have hok := fun P C (h1 : rdP s = P) (h3 : rdC s = C) => rdOk_of h1 hVV h3
  have hyes := fun (h : rdOk s = true) => rdRow_yes h
  have hno := fun (h : rdOk s = false) => rdRow_no h
  rw [hVV] at hyes
  have HCU1 := Lib.hid (fun W (h : Below w.heap.size w W) => HCU.out W s h hs)
  have HCU2 := Lib.hid (fun W (h : Below w.heap.size w W) => HCU.out W (cut2 s) h (by omega))
  have HLN := Lib.hid (fun W P C (hp : P.size ≤ 90000) => (by
    have := stLine_any W P V C (by omega)
    exact this : Calls Tryd.prog 8 #[.agg #[.string P, .int .i64 V, .int .i64 C]] W fun e w' => e = .returned (.string (lineS P V C)) ∧ Below W.heap.size W w'))
  generalize rdOk s = OK at *
  generalize rdRow s = RW at *
  generalize rdP s = RP at *
  generalize rdC s = RC at *
  generalize cut2 (cut2 s) = c22 at *
  have hwb := wordC_bd (cut1 (cut2 s))
  have HID2 := Lib.hid (fun W b g hB hg => stIdx_any W b g (cut1 (cut2 s)) hB hg)
  generalize wordC (cut1 (cut2 s)) = wc at *
  generalize cut1 (cut2 s) = c12 at *
  generalize (Lib.cut (cut2 s).data.toList [32]).2.2 = f2 at *
  generalize cut2 s = c2 at *
  generalize Lib.index [61, 60, 62, 33] (cut1 s).data.toList = ix at *
  generalize cut1 s = c1 at *
  generalize (Lib.cut s.data.toList [32]).2.2 = f1 at *
  clear HCU
  have hmax : max 0 ix = V := hV.symm
  have hV0 : 0 ≤ V ∧ V ≤ 4 := by omega
  have HR := Lib.hid hR; clear hR
  have HB1 := Lib.hid hb1; clear hb1
  have HHYP := Lib.hid (And.intro hok (And.intro hyes hno)); clear hok hyes hno hVV hm
  have HRP := Lib.hid (And.intro hRP hRC); clear hRP hRC hV
  go_enter Tryd.func6, Tryd.ntmps6
  go_wp2_with fail
  refine (HCU1.out _ HB1.out).mono ?_
  rintro e w2 ⟨rfl, q, hw2⟩
  have HB2 := Lib.hid (show Below w.heap.size w w2 by rw [hw2]; exact below_drewN HB1.out q)
  have HR2 := Lib.hid (show Blk w2 w.heap.size 28 #[.string ⟨#[]⟩, .int .i64 0, .int .i64 0] by rw [hw2]; exact HR.out.drewN q)
  clear hw2
  go_wp2_with fail
  refine (HIX.out w2 HB2.out).mono ?_
  rintro e w3 ⟨rfl, hw3⟩
  obtain rfl : w2 = w3 := hw3.symm
  clear hw3
  by_cases h3 : V = 3
  · obtain ⟨rfl⟩ : V = 3 := h3
    have hP : RP = c22 ∧ RC = wc := by rw [HRP.out.1, HRP.out.2, if_pos rfl, if_pos rfl]; exact ⟨rfl, rfl⟩
    obtain ⟨rfl, rfl⟩ := hP
    clear HRP
    have hg := Blk.new w2 28 #[.string c2, .int .i64 3, .int .i64 0]
    have hbg := HB2.out.alloc HB2.out.size (.cells #[.string c2, .int .i64 3, .int .i64 0] 28)
    have hR3 := HR2.out.alloc (.cells #[.string c2, .int .i64 3, .int .i64 0] 28)
    have hg1 := hg.cell 1
    simp at hg1
    have hrs := HR2.out.lt
    have HG := Lib.hid (And.intro hg (And.intro hbg hR3)); clear hg hbg hR3
    have hwA : (w2.alloc (.cells #[.string c2, .int .i64 3, .int .i64 0] 28)).heap.size = w2.heap.size + 1 := by simp
    have hx := Blk.new (w2.alloc (.cells #[.string c2, .int .i64 3, .int .i64 0] 28)) 9 #[.string ⟨#[]⟩]
    rw [hwA] at hx
    have hgx := HG.out.1.alloc (.cells #[.string ⟨#[]⟩] 9)
    have hRx := HG.out.2.2.alloc (.cells #[.string ⟨#[]⟩] 9)
    have hbx := HG.out.2.1.alloc HG.out.2.1.size (.cells #[.string ⟨#[]⟩] 9)
    have HX := Lib.hid (And.intro hx (And.intro hgx (And.intro hRx hbx))); clear hx hgx hRx hbx hwA
    go_wp2_with fail
    refine (HCU2.out _ HX.out.2.2.2).mono ?_
    rintro e w5 ⟨rfl, q, hw5⟩
    have HX5 := Lib.hid (show Blk w5 (w2.heap.size + 1) 9 #[.string ⟨#[]⟩] ∧ Blk w5 w2.heap.size 28 #[.string c2, .int .i64 3, .int .i64 0] ∧ Blk w5 w.heap.size 28 #[.string ⟨#[]⟩, .int .i64 0, .int .i64 0] ∧ Below w.heap.size w w5 by
      rw [hw5]; exact ⟨HX.out.1.drewN q, HX.out.2.1.drewN q, HX.out.2.2.1.drewN q, below_drewN HX.out.2.2.2 q⟩)
    clear hw5 HX HG hg1
    have x0 := HX5.out.1.cell 0
    have x1 := HX5.out.1.frozen 0
    have g0 := HX5.out.2.1.cell 0
    have g1 := HX5.out.2.1.frozen 0
    have xl := HX5.out.1.lt
    have gl := HX5.out.2.1.lt
    simp at x0 g0
    have HX6 := Lib.hid (show Blk ((w5.setCell ⟨w2.heap.size + 1, 0, none⟩ (.string c12)).setCell ⟨w2.heap.size, 0, none⟩ (.string RP)) (w2.heap.size + 1) 9 #[.string c12] ∧ Blk ((w5.setCell ⟨w2.heap.size + 1, 0, none⟩ (.string c12)).setCell ⟨w2.heap.size, 0, none⟩ (.string RP)) w2.heap.size 28 #[.string RP, .int .i64 3, .int .i64 0] ∧ Blk ((w5.setCell ⟨w2.heap.size + 1, 0, none⟩ (.string c12)).setCell ⟨w2.heap.size, 0, none⟩ (.string RP)) w.heap.size 28 #[.string ⟨#[]⟩, .int .i64 0, .int .i64 0] ∧ Below w.heap.size w ((w5.setCell ⟨w2.heap.size + 1, 0, none⟩ (.string c12)).setCell ⟨w2.heap.size, 0, none⟩ (.string RP)) from
      ⟨(HX5.out.1.put 0 _).far (by simp) _, (HX5.out.2.1.far (by simp) _).put 0 _, (HX5.out.2.2.1.far (by simp; omega) _).far (by simp; omega) _, (HX5.out.2.2.2.setCell (by simp; have := HB2.out.size; omega) _).setCell (by simp; exact HB2.out.size) _⟩)
    have hwE : ((w5.setCell ⟨w2.heap.size + 1, 0, none⟩ (.string c12)).setCell ⟨w2.heap.size, 0, none⟩ (.string RP)).heap.size = w5.heap.size := by simp
    have hy := Blk.new ((w5.setCell ⟨w2.heap.size + 1, 0, none⟩ (.string c12)).setCell ⟨w2.heap.size, 0, none⟩ (.string RP)) 3 #[.int .i64 1, .int .i64 2, .int .i64 3]
    rw [hwE] at hy
    have HX7 := Lib.hid (And.intro hy (And.intro (HX6.out.1.alloc (.cells #[.int .i64 1, .int .i64 2, .int .i64 3] 3)) (And.intro (HX6.out.2.1.alloc (.cells #[.int .i64 1, .int .i64 2, .int .i64 3] 3)) (And.intro (HX6.out.2.2.1.alloc (.cells #[.int .i64 1, .int .i64 2, .int .i64 3] 3)) (HX6.out.2.2.2.alloc HX6.out.2.2.2.size (.cells #[.int .i64 1, .int .i64 2, .int .i64 3] 3))))))
    clear hy hwE
    go_wp2_with fail
    refine (HID2.out _ w5.heap.size (w2.heap.size + 1) HX7.out.1 (HX7.out.2.1.cell 0)).mono ?_
    rintro e w6 ⟨rfl, hb6⟩
    have HG6 := Lib.hid (HX7.out.2.2.1.below hb6 HX7.out.2.2.1.lt)
    have HR6 := Lib.hid (HX7.out.2.2.2.1.below hb6 HX7.out.2.2.2.1.lt)
    have HB6 := Lib.hid (HX7.out.2.2.2.2.trans (hb6.mono HX7.out.2.2.2.2.size))
    clear hb6 HX7 HX6 HX5 x0 x1 g0 g1 xl gl
    have g2 := HG6.out.cell 2
    have e2 := HG6.out.frozen 2
    have gl := HG6.out.lt
    simp at g2
    have hG7 := HG6.out.put 2 (.int .i64 RC)
    have hR7 := HR6.out.far (p := ⟨w2.heap.size, 2, none⟩) (by simp; omega) (.int .i64 RC)
    have hB7 := HB6.out.setCell (p := ⟨w2.heap.size, 2, none⟩) (by simp; exact HB2.out.size) (.int .i64 RC)
    have k0 := hG7.cell 0
    have k1 := hG7.cell 1
    have k2 := hG7.cell 2
    have r0 := hR7.cell 0
    have r1 := hR7.cell 1
    have r2 := hR7.cell 2
    have p0 := hR7.frozen 0
    have p1 := hR7.frozen 1
    have p2 := hR7.frozen 2
    simp at k0 k1 k2 r0 r1 r2
    have HG7 := Lib.hid (And.intro hG7 (And.intro hR7 hB7)); clear hG7 hR7 hB7
    have hwc : (1 : Int) + (RC - 1) = RC := by omega
    have hok2 := HHYP.out.1 RP RC rfl rfl
    have HLL := HLN.out (w6.setCell ⟨w2.heap.size, 2, none⟩ (.int .i64 RC)) RP RC (by omega)
    have hne : ((lineS RP 3 RC).toList == s.toList) = decide (lineS RP 3 RC = s) := strT _ _
    generalize lineS RP 3 RC = L at *
    generalize decide (L = s) = B2 at *
    have HLL := Lib.hid HLL
    by_cases hse : s = ⟨#[]⟩
    · rw [decide_eq_true hse] at hempty
      have hf : OK = false := by rw [hok2, decide_eq_false (by simpa using hse)]; rfl
      have HN := Lib.hid (And.intro (HHYP.out.2.2 hf) hf); clear hse hok2 hf
      go_wp2_with fail
      refine bodyPost_ret (res_blk_tmp rfl _ _ w.heap.size 28 #[.string ⟨#[]⟩, .int .i64 0, .int .i64 0] _ rfl (((HG7.out.2.1.put 0 _).put 1 _).put 2 _) Tryd.underlying28 rfl (by kernel_rfl)) rfl ⟨?_, ?_⟩
      · rw [HN.out.1, HN.out.2]; rfl
      · exact ((HG7.out.2.2.setCell (Nat.le_refl _) _).setCell (Nat.le_refl _) _).setCell (Nat.le_refl _) _
    · rw [decide_eq_false hse] at hempty
      have hok3 : OK = B2 := by rw [hok2, decide_eq_true (by simpa using hse)]; rfl
      clear hok2 hse
      cases B2 with
      | false =>
        have HN := Lib.hid (And.intro (HHYP.out.2.2 hok3) hok3); clear hok3
        go_wp2_with fail
        refine HLL.out.mono ?_
        rintro e w4 ⟨rfl, hb4⟩
        have HR4 := Lib.hid (HG7.out.2.1.below hb4 HG7.out.2.1.lt)
        have HG4 := Lib.hid (HG7.out.1.below hb4 HG7.out.1.lt)
        have HB4 := Lib.hid (HG7.out.2.2.trans (hb4.mono HG7.out.2.2.size))
        clear hb4 r0 r1 r2 p0 p1 p2 k0 k1 k2 g2 e2
        have r0 := HR4.out.cell 0
        have r1 := HR4.out.cell 1
        have r2 := HR4.out.cell 2
        have p0 := HR4.out.frozen 0
        have p1 := HR4.out.frozen 1
        have p2 := HR4.out.frozen 2
        have g0 := HG4.out.cell 0
        have g1 := HG4.out.cell 1
        have g2 := HG4.out.cell 2
        simp at r0 r1 r2 g0 g1 g2
        go_wp2_with fail
        refine bodyPost_ret (res_blk_tmp rfl _ _ w.heap.size 28 #[.string ⟨#[]⟩, .int .i64 0, .int .i64 0] _ rfl (((HR4.out.put 0 _).put 1 _).put 2 _) Tryd.underlying28 rfl (by kernel_rfl)) rfl ⟨?_, ?_⟩
        · rw [HN.out.1, HN.out.2]; rfl
        · exact ((HB4.out.setCell (Nat.le_refl _) _).setCell (Nat.le_refl _) _).setCell (Nat.le_refl _) _
      | true =>
        have HN := Lib.hid (And.intro (HHYP.out.2.1 hok3) hok3); clear hok3
        go_wp2_with fail
        refine HLL.out.mono ?_
        rintro e w4 ⟨rfl, hb4⟩
        have HR4 := Lib.hid (HG7.out.2.1.below hb4 HG7.out.2.1.lt)
        have HG4 := Lib.hid (HG7.out.1.below hb4 HG7.out.1.lt)
        have HB4 := Lib.hid (HG7.out.2.2.trans (hb4.mono HG7.out.2.2.size))
        clear hb4 r0 r1 r2 p0 p1 p2 k0 k1 k2 g2 e2
        have r0 := HR4.out.cell 0
        have r1 := HR4.out.cell 1
        have r2 := HR4.out.cell 2
        have p0 := HR4.out.frozen 0
        have p1 := HR4.out.frozen 1
        have p2 := HR4.out.frozen 2
        have g0 := HG4.out.cell 0
        have g1 := HG4.out.cell 1
        have g2 := HG4.out.cell 2
        simp at r0 r1 r2 g0 g1 g2
        go_wp2_with fail
        refine bodyPost_ret (res_blk_tmp rfl _ _ w.heap.size 28 #[.string RP, .int .i64 3, .int .i64 RC] _ rfl (((HR4.out.put 0 _).put 1 _).put 2 _) Tryd.underlying28 rfl (by kernel_rfl)) rfl ⟨?_, ?_⟩
        · rw [HN.out.1, HN.out.2]; rfl
        · exact ((HB4.out.setCell (Nat.le_refl _) _).setCell (Nat.le_refl _) _).setCell (Nat.le_refl _) _
  · have hv3 : (V == 3) = false := by rw [beq_eq_false_iff_ne]; exact h3
    have hP : RP = c2 ∧ RC = 0 := by rw [HRP.out.1, HRP.out.2, if_neg h3, if_neg h3]; exact ⟨rfl, rfl⟩
    obtain ⟨rfl, rfl⟩ := hP
    clear h3 HRP
    have hg := Blk.new w2 28 #[.string RP, .int .i64 V, .int .i64 0]
    have hbg := HB2.out.alloc HB2.out.size (.cells #[.string RP, .int .i64 V, .int .i64 0] 28)
    have hR3 := HR2.out.alloc (.cells #[.string RP, .int .i64 V, .int .i64 0] 28)
    have hok2 := HHYP.out.1 RP 0 rfl rfl
    have HLL := HLN.out (w2.alloc (.cells #[.string RP, .int .i64 V, .int .i64 0] 28)) RP 0 (by omega)
    have hne : ((lineS RP V 0).toList == s.toList) = decide (lineS RP V 0 = s) := strT _ _
    generalize lineS RP V 0 = L at *
    generalize decide (L = s) = B2 at *
    have hg0 := hg.cell 0
    have hg1 := hg.cell 1
    have hg2 := hg.cell 2
    have hrs := HR2.out.lt
    simp at hg0 hg1 hg2
    have HG := Lib.hid (And.intro hg (And.intro hbg hR3)); clear hg hbg hR3
    have HLL := Lib.hid HLL
    have r0 := HR2.out.cell 0
    have r1 := HR2.out.cell 1
    have r2 := HR2.out.cell 2
    have p0 := HR2.out.frozen 0
    have p1 := HR2.out.frozen 1
    have p2 := HR2.out.frozen 2
    simp at r0 r1 r2
    by_cases hse : s = ⟨#[]⟩
    · rw [decide_eq_true hse] at hempty
      have hf : OK = false := by rw [hok2, decide_eq_false (by simpa using hse)]; rfl
      have HN := Lib.hid (And.intro (HHYP.out.2.2 hf) hf); clear hse hok2 hf
      go_wp2_with fail
      refine bodyPost_ret (res_blk_tmp rfl _ _ w.heap.size 28 #[.string ⟨#[]⟩, .int .i64 0, .int .i64 0] _ rfl ((((HR2.out.put 0 _).put 1 _).put 2 _).alloc _) Tryd.underlying28 rfl (by kernel_rfl)) rfl ⟨?_, ?_⟩
      · rw [HN.out.1, HN.out.2]; rfl
      · exact (((HB2.out.setCell (Nat.le_refl _) _).setCell (Nat.le_refl _) _).setCell (Nat.le_refl _) _).alloc (by simp; exact HB2.out.size) _
    · rw [decide_eq_false hse] at hempty
      have hok3 : OK = B2 := by rw [hok2, decide_eq_true (by simpa using hse)]; rfl
      clear hok2 hse
      cases B2 with
      | false =>
        have HN := Lib.hid (And.intro (HHYP.out.2.2 hok3) hok3); clear hok3
        go_wp2_with fail
        refine HLL.out.mono ?_
        rintro e w4 ⟨rfl, hb4⟩
        have HR4 := Lib.hid (HG.out.2.2.below hb4 HG.out.2.2.lt)
        have HG4 := Lib.hid (HG.out.1.below hb4 HG.out.1.lt)
        have HB4 := Lib.hid (HG.out.2.1.trans (hb4.mono HG.out.2.1.size))
        clear hb4 r0 r1 r2 p0 p1 p2 hg0 hg1 hg2
        have r0 := HR4.out.cell 0
        have r1 := HR4.out.cell 1
        have r2 := HR4.out.cell 2
        have p0 := HR4.out.frozen 0
        have p1 := HR4.out.frozen 1
        have p2 := HR4.out.frozen 2
        have g0 := HG4.out.cell 0
        have g1 := HG4.out.cell 1
        have g2 := HG4.out.cell 2
        simp at r0 r1 r2 g0 g1 g2
        go_wp2_with fail
        refine bodyPost_ret (res_blk_tmp rfl _ _ w.heap.size 28 #[.string ⟨#[]⟩, .int .i64 0, .int .i64 0] _ rfl (((HR4.out.put 0 _).put 1 _).put 2 _) Tryd.underlying28 rfl (by kernel_rfl)) rfl ⟨?_, ?_⟩
        · rw [HN.out.1, HN.out.2]; rfl
        · exact ((HB4.out.setCell (Nat.le_refl _) _).setCell (Nat.le_refl _) _).setCell (Nat.le_refl _) _
      | true =>
        have HN := Lib.hid (And.intro (HHYP.out.2.1 hok3) hok3); clear hok3
        go_wp2_with fail
        refine HLL.out.mono ?_
        rintro e w4 ⟨rfl, hb4⟩
        have HR4 := Lib.hid (HG.out.2.2.below hb4 HG.out.2.2.lt)
        have HG4 := Lib.hid (HG.out.1.below hb4 HG.out.1.lt)
        have HB4 := Lib.hid (HG.out.2.1.trans (hb4.mono HG.out.2.1.size))
        clear hb4 r0 r1 r2 p0 p1 p2 hg0 hg1 hg2
        have r0 := HR4.out.cell 0
        have r1 := HR4.out.cell 1
        have r2 := HR4.out.cell 2
        have p0 := HR4.out.frozen 0
        have p1 := HR4.out.frozen 1
        have p2 := HR4.out.frozen 2
        have g0 := HG4.out.cell 0
        have g1 := HG4.out.cell 1
        have g2 := HG4.out.cell 2
        simp at r0 r1 r2 g0 g1 g2
        go_wp2_with fail
        refine bodyPost_ret (res_blk_tmp rfl _ _ w.heap.size 28 #[.string RP, .int .i64 V, .int .i64 0] _ rfl (((HR4.out.put 0 _).put 1 _).put 2 _) Tryd.underlying28 rfl (by kernel_rfl)) rfl ⟨?_, ?_⟩
        · rw [HN.out.1, HN.out.2]; rfl
        · exact ((HB4.out.setCell (Nat.le_refl _) _).setCell (Nat.le_refl _) _).setCell (Nat.le_refl _) _
end Go.Proofs.YtpnkgldpmalklaaDoor
