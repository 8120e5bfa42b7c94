/- Several texts, joined for the limit of sixty files; each one opens with its own comment. -/
import Derived.Test.YtihiakkeloejlaaGreatDoorJoin32
import Derived.Test.YtihiakkeloejlaaGreatDoorJoin5
import Derived.Test.YtihiakkeloejlaaGreatDoorJoin27
import Derived.Test.YtihiakkeloejlaaGreatDoorJoin33
import Derived.Test.YtihiakkeloejlaaGreatDoorJoin1
/- The document's line of a change. -/
set_option linter.unusedVariables false
set_option linter.unusedSimpArgs false
namespace Go.Proofs.YtihiakkeloejlaaGreatDoor
open Go Go.RowKit Go.Shelf
open Sw
set_option maxRecDepth 100000 in
set_option maxHeartbeats 4000000 in
theorem refLine41_any (w : World) (k : Int) (p f : ByteArray) (hp : p.size ≤ 100000) (hf : f.size ≤ 100000) :
    Calls Tryz.prog 18 #[.agg #[.int .i64 k, .string p, .string f]] w fun e w' => e = .returned (.string (lineC k p f)) ∧ Below w.heap.size w w' := by
  have hb0 : Below w.heap.size w (w.alloc (.cells #[.int .i64 k, .string p, .string f] 41)) := (Below.refl _ w).alloc (Nat.le_refl _) _
  have hB := Blk.new w 41 #[.int .i64 k, .string p, .string f]
  obtain ⟨W, hW⟩ : ∃ W, w.alloc (.cells #[.int .i64 k, .string p, .string f] 41) = W := ⟨_, rfl⟩
  rw [hW] at hb0 hB
  have HB := Lib.hid (And.intro hb0 hB)
  have HW := Lib.hid hW
  have HP := Lib.hid (fun W => refRight_any W p hp)
  have HF := Lib.hid (fun W => refRight_any W f hf)
  have x0 := hB.cell 0
  have x1 := hB.cell 1
  have x2 := hB.cell 2
  simp only [List.getElem?_toArray, List.getElem?_cons_succ, List.getElem?_cons_zero] at x0 x1 x2
  obtain ⟨R, hR⟩ : ∃ R, lineC k p f = R := ⟨_, rfl⟩
  have HR := Lib.hid hR
  rw [hR]
  unfold lineC rightC at HR
  clear hb0 hB hW hR
  generalize rightL p.data.toList = rp at *
  generalize rightL f.data.toList = rf at *
  by_cases h1 : k < 1
  · have t1 : decide (k < 1) = true := by simpa using h1
    have H1 := Lib.hid h1; clear h1
    go_enter Tryz.func18, Tryz.ntmps18
    go_upto_region 1 with fail
    rw [HW.out]
    go_wp2_with fail
    all_goals (go_ret; exact ⟨by rw [← HR.out, show decide (1 ≤ k ∧ k ≤ 5) = false by have := H1.out; simp; omega]; rfl, HB.out.1⟩)
  · by_cases h5 : 5 < k
    · have t1 : decide (k < 1) = false := by simpa using h1
      have t2 : decide (k > 5) = true := by simpa using h5
      have H1 := Lib.hid (And.intro h1 h5); clear h1 h5
      go_enter Tryz.func18, Tryz.ntmps18
      go_upto_region 1 with fail
      rw [HW.out]
      go_wp2_with fail
      all_goals (go_ret; exact ⟨by rw [← HR.out, show decide (1 ≤ k ∧ k ≤ 5) = false by have := H1.out.2; simp; omega]; rfl, HB.out.1⟩)
    · have e : decide (1 ≤ k ∧ k ≤ 5) = true := by simp; omega
      have HE := Lib.hid e
      clear e
      go_enter Tryz.func18, Tryz.ntmps18
      go_upto_region 1 with fail
      rw [HW.out]
      go_wp2_with fail
      refine (HP.out W).mono ?_
      rintro e w1 ⟨rfl, hb1⟩
      have hB1 := HB.out.2.below hb1 HB.out.2.lt
      have H1 := Lib.hid (And.intro (HB.out.1.trans (hb1.mono HB.out.1.size)) hB1)
      have y0 := hB1.cell 0
      have y1 := hB1.cell 1
      have y2 := hB1.cell 2
      simp only [List.getElem?_toArray, List.getElem?_cons_succ, List.getElem?_cons_zero] at y0 y1 y2
      clear hb1 hB1 x0 x1 x2 HP
      cases rp with
      | false =>
        go_wp2_with fail
        go_ret
        exact ⟨by rw [← HR.out, HE.out]; rfl, H1.out.1⟩
      | true =>
        by_cases h4 : k = 4
        · subst h4
          go_wp2_with fail
          refine (HF.out w1).mono ?_
          rintro e w2 ⟨rfl, hb2⟩
          have hB2 := H1.out.2.below hb2 H1.out.2.lt
          have H2 := Lib.hid (H1.out.1.trans (hb2.mono H1.out.1.size))
          have z1 := hB2.cell 1
          have z2 := hB2.cell 2
          simp only [List.getElem?_toArray, List.getElem?_cons_succ, List.getElem?_cons_zero] at z1 z2
          have hne := strD f p
          clear hb2 hB2 y0 y1 y2 HF
          generalize decide (f = p) = q at *
          cases rf <;> cases q <;> (go_wp2_with fail; go_ret; exact ⟨by rw [← HR.out]; rfl, H2.out⟩)
        · have hne := strEm f
          have t4 : (k == 4) = false := by simpa using h4
          have h4' : k = 1 ∨ k = 2 ∨ k = 3 ∨ k = 5 := by omega
          clear h4 h1 h5
          generalize decide (f = ⟨#[]⟩) = q at *
          cases q with
          | false =>
            rcases h4' with rfl | rfl | rfl | rfl <;> (go_wp2_with fail; go_ret; exact ⟨by rw [← HR.out]; rfl, H1.out.1⟩)
          | true =>
            rcases h4' with rfl | rfl | rfl | rfl
            all_goals
              go_upto_region 9 with fail
              have HC0 := Lib.hid (Aft.start w1)
              have HY := Lib.hid (And.intro y0 (And.intro y1 H1.out.2.lt))
              clear y0 y1 y2
              have k0 : ∀ m : Held (Aft w1), (HeldW m).cell? ⟨w.heap.size, 0, none⟩ = some _ := fun m => (Aft.cell m HY.out.2.2).trans HY.out.1
              have k1 : ∀ m : Held (Aft w1), (HeldW m).cell? ⟨w.heap.size, 1, none⟩ = some _ := fun m => (Aft.cell m HY.out.2.2).trans HY.out.2.1
              refine wp_region_mix (Aft w1) [(1, true), (2, true), (5, true), (6, true), (0, false), (3, false), (4, false), (7, false), (8, false)] (by kernel_rfl) (by kernel_rfl) ?_
              simp only [pickP, List.filterMap_cons, List.filterMap_nil, List.getElem?_toArray, List.getElem?_cons_succ, List.getElem?_cons_zero, Option.map_some]
              repeat (apply mix_first; apply Exists.intro; refine ⟨fun m => ?_, HC0.out, ?_⟩; · (go_big_quiet_step (fail); exact wpQuiet_nil rfl))
              clear k0 k1
              refine mix_forced HC0.out ?_
              obtain ⟨b, hb⟩ : ∃ n, w1.drew.heap.size = n := ⟨_, rfl⟩
              obtain ⟨U, hU⟩ : ∃ U, w1.drew.alloc (.cells #[.string ⟨#[]⟩, .string ⟨#[43, 32]⟩, .string ⟨#[45, 32]⟩, .string ⟨#[126, 32]⟩, .string ⟨#[]⟩, .string ⟨#[33, 32]⟩] 9) = U := ⟨_, rfl⟩
              have A1 := Lib.hid (show Aft w1 U by rw [← hU]; exact Below.alloc HC0.out HC0.out.size _)
              have hS := (show Blk U b 9 #[.string ⟨#[]⟩, .string ⟨#[43, 32]⟩, .string ⟨#[45, 32]⟩, .string ⟨#[126, 32]⟩, .string ⟨#[]⟩, .string ⟨#[33, 32]⟩] by rw [← hU, ← hb]; exact Blk.new _ _ _)
              have s1 := hS.cell 1
              have s2 := hS.cell 2
              have s3 := hS.cell 3
              have s5 := hS.cell 5
              simp only [List.getElem?_toArray, List.getElem?_cons_succ, List.getElem?_cons_zero] at s1 s2 s3 s5
              clear hS
              go_wp2_with fail
              show mixC _ _ _ _ _ _ _
              clear hU hb
              refine mix_forced A1.out ?_
              go_wp2_with fail
              show mixC _ _ _ _ _ _ _
              refine mix_forced A1.out ?_
              go_wp2_with fail
              show mixC _ _ _ _ _ _ _
              refine mix_forced A1.out ?_
              go_wp2_with fail
              show mixC _ _ _ _ _ _ _
              refine mix_forced A1.out ?_
              go_wp2_with fail
              show mixC _ _ _ _ _ _ _
              refine mix_nil A1.out ?_
              go_wp2_with fail
              go_ret
              exact ⟨by rw [← HR.out]; rfl, H1.out.1.trans (A1.out.mono H1.out.1.size)⟩
end Go.Proofs.YtihiakkeloejlaaGreatDoor
/- diff.Read: the change of a line. -/
set_option linter.unusedVariables false
set_option linter.unusedSimpArgs false
namespace Sw
open Go
/-- the kind that a sign says -/
def sgnK (x : ByteArray) : Int := max 0 (Lib.indexByte [32, 43, 45, 126, 62, 33] (x.data.toList.headD 0))
/-- the change that a line says, be it right or not -/
def rawC (s : ByteArray) : Int × ByteArray × ByteArray := (sgnK (cutBy 32 s).1, (cutBy 9 (cutBy 32 s).2.1).1, (cutBy 9 (cutBy 32 s).2.1).2.1)
/-- may a line be read? -/
def okL (s : ByteArray) : Bool := decide ((cutBy 32 s).1.size = 1) && (rightC (rawC s).1 (rawC s).2.1 (rawC s).2.2 && decide (lineC (rawC s).1 (rawC s).2.1 (rawC s).2.2 = s))
def chZ : Int × ByteArray × ByteArray := (0, ⟨#[]⟩, ⟨#[]⟩)
def readC (s : ByteArray) : Int × ByteArray × ByteArray := if okL s = true then rawC s else chZ
theorem index_hiB : ∀ (a : List UInt8) (c : UInt8), Lib.indexByte a c < a.length := fun a c => by
  have hge := Lib.indexByte_ge a c
  by_cases hn : Lib.indexByte a c < 0
  · omega
  · obtain ⟨o, ho⟩ := Int.eq_ofNat_of_zero_le (show 0 ≤ Lib.indexByte a c by omega)
    have h1 := (List.getElem?_eq_some_iff.1 (Lib.indexByte_some ho).1).1
    rw [ho]
    exact Int.ofNat_lt.2 h1
theorem one_byte {x : ByteArray} (h : x.size = 1) : ∃ b, x = ⟨#[b]⟩ := by
  have h1 : x.data.toList.length = 1 := by rw [← Lib.size_eq]; exact h
  obtain ⟨b, hb⟩ := List.length_eq_one_iff.1 h1
  exact ⟨b, ba_ext (by rw [hb])⟩
theorem read_okR {s : ByteArray} (h : okL s = true) : lineC (readC s).1 (readC s).2.1 (readC s).2.2 = s ∧ rightC (readC s).1 (readC s).2.1 (readC s).2.2 = true := by
  unfold readC
  rw [if_pos h]
  unfold okL at h
  simp only [Bool.and_eq_true, decide_eq_true_eq] at h
  exact ⟨h.2.2, h.2.1⟩
end Sw
namespace Go.Proofs.YtihiakkeloejlaaGreatDoor
open Go Go.RowKit Go.Shelf
open Sw
set_option maxRecDepth 100000 in
set_option maxHeartbeats 4000000 in
theorem diffRead_any (w : World) (s : ByteArray) (hs : s.size ≤ 1000000) :
    Calls Tryz.prog 19 #[.string s] w fun e w' => e = .returned (.tuple #[.agg #[.int .i64 (readC s).1, .string (readC s).2.1, .string (readC s).2.2], .bool (okL s)]) ∧ Below w.heap.size w w' := by
  have hb0 : Below w.heap.size w (w.alloc (.cells #[.int .i64 0, .string ⟨#[]⟩, .string ⟨#[]⟩] 40)) := (Below.refl _ w).alloc (Nat.le_refl _) _
  have hB := Blk.new w 40 #[.int .i64 0, .string ⟨#[]⟩, .string ⟨#[]⟩]
  obtain ⟨W, hW⟩ : ∃ W, w.alloc (.cells #[.int .i64 0, .string ⟨#[]⟩, .string ⟨#[]⟩] 40) = W := ⟨_, rfl⟩
  rw [hW] at hb0 hB
  have hz1 := cutBy_size 32 s
  have hz2 := cutBy_size 9 (cutBy 32 s).2.1
  have HC := Lib.hid (fun W => cutBy_any W 32 s hs)
  have HC2 := Lib.hid (fun W => cutBy_any W 9 (cutBy 32 s).2.1 (by omega))
  have hsz : (rawC s).2.1.size ≤ 1000000 ∧ (rawC s).2.2.size ≤ 1000000 := ⟨by show (cutBy 9 (cutBy 32 s).2.1).1.size ≤ _; omega, by show (cutBy 9 (cutBy 32 s).2.1).2.1.size ≤ _; omega⟩
  have HR := Lib.hid (fun W => diffRight_any W (rawC s).1 (rawC s).2.1 (rawC s).2.2 hsz.1 hsz.2)
  have HL := Lib.hid (fun W => diffLine_any W (rawC s).1 (rawC s).2.1 (rawC s).2.2 hsz.1 hsz.2)
  have hraw : rawC s = (sgnK (cutBy 32 s).1, (cutBy 9 (cutBy 32 s).2.1).1, (cutBy 9 (cutBy 32 s).2.1).2.1) := rfl
  have hok : okL s = (decide ((cutBy 32 s).1.size = 1) && (rightC (rawC s).1 (rawC s).2.1 (rawC s).2.2 && decide (lineC (rawC s).1 (rawC s).2.1 (rawC s).2.2 = s))) := rfl
  have hrd : readC s = if okL s = true then rawC s else chZ := rfl
  generalize rawC s = rw at *
  generalize readC s = rd at *
  generalize okL s = ok at *
  generalize cutBy 32 s = t at *
  obtain ⟨t1, t2, t3⟩ := t
  generalize cutBy 9 (t1, t2, t3).2.1 = u at *
  obtain ⟨u1, u2, u3⟩ := u
  have HB := Lib.hid (And.intro hb0 hB)
  have HW := Lib.hid hW
  subst hraw
  simp only at HR HL hok hrd HC HC2
  have HOK := Lib.hid (And.intro hok hrd)
  clear hb0 hB hW hok hrd hz1 hz2 hsz
  go_enter Tryz.func19, Tryz.ntmps19
  go_upto_region 1 with fail
  rw [HW.out]
  go_wp2_with fail
  refine (HC.out W).mono ?_
  rintro e w1 ⟨rfl, m1, rfl⟩
  have hB1 : Blk (W.drewN m1) w.heap.size 40 #[.int .i64 0, .string ⟨#[]⟩, .string ⟨#[]⟩] := HB.out.2
  have hw1 : Below w.heap.size w (W.drewN m1) := below_drewN HB.out.1 m1
  have k0 := hB1.cell 0
  have k1 := hB1.cell 1
  have k2 := hB1.cell 2
  have f0 := hB1.frozen 0
  have f1 := hB1.frozen 1
  have f2 := hB1.frozen 2
  simp only [List.getElem?_toArray, List.getElem?_cons_succ, List.getElem?_cons_zero] at k0 k1 k2
  obtain ⟨w1, hw⟩ : ∃ w1, W.drewN m1 = w1 := ⟨_, rfl⟩
  rw [hw] at hB1 hw1 k0 k1 k2 f0 f1 f2 ⊢
  have H1 := Lib.hid (And.intro hw1 hB1)
  clear hB1 hw1 hw
  by_cases h1 : t1.size = 1
  · obtain ⟨b, rfl⟩ := one_byte h1
    have hsg : sgnK ⟨#[b]⟩ = max 0 (Lib.indexByte [32, 43, 45, 126, 62, 33] b) := rfl
    have hge := Lib.indexByte_ge [32, 43, 45, 126, 62, 33] b
    have hhi := index_hiB [32, 43, 45, 126, 62, 33] b
    have hIX := Tryz.strings_Index_one ⟨#[32, 43, 45, 126, 62, 33]⟩ b w1
    simp only [List.length_cons, List.length_nil] at hhi
    obtain ⟨j, hj⟩ : ∃ j, Lib.indexByte [32, 43, 45, 126, 62, 33] b = j := ⟨_, rfl⟩
    have hIX2 : Calls Tryz.prog 42 #[.string ⟨#[32, 43, 45, 126, 62, 33]⟩, .string ⟨#[b]⟩] w1 fun e w' => e = .returned (.int .i64 j) ∧ w' = w1 := by
      rw [← hj]; exact hIX
    rw [hj] at hsg hge hhi
    obtain ⟨K, hK⟩ : ∃ K, sgnK ⟨#[b]⟩ = K := ⟨_, rfl⟩
    rw [hK] at hsg HOK HR HL
    have HIX := Lib.hid hIX2
    clear hIX hIX2 hj hK HC h1
    have hmax : max 0 j = K := hsg.symm
    clear hsg
    go_wp2_with fail
    refine HIX.out.mono ?_
    rintro e w2 ⟨rfl, hw2⟩
    obtain rfl : w1 = w2 := hw2.symm
    clear hw2
    obtain ⟨w3, hw3⟩ : ∃ w3, w1.setCell ⟨w.heap.size, 0, none⟩ (.int .i64 K) = w3 := ⟨_, rfl⟩
    have hB3 : Blk w3 w.heap.size 40 #[.int .i64 K, .string ⟨#[]⟩, .string ⟨#[]⟩] := by rw [← hw3]; exact H1.out.2.put 0 _
    have hw13 : Below w.heap.size w w3 := by rw [← hw3]; exact H1.out.1.setCell (p := ⟨w.heap.size, 0, none⟩) (Nat.le_refl _) _
    have H3 := Lib.hid (And.intro hw13 hB3)
    clear hB3 hw13
    go_wp2_with fail
    refine (HC2.out w3).mono ?_
    rintro e w4' ⟨rfl, m4, rfl⟩
    have hB4 : Blk (w3.drewN m4) w.heap.size 40 #[.int .i64 K, .string ⟨#[]⟩, .string ⟨#[]⟩] := H3.out.2.drewN m4
    have hb4 : Below w.heap.size w (w3.drewN m4) := below_drewN H3.out.1 m4
    obtain ⟨w4, hw4⟩ : ∃ w4, w3.drewN m4 = w4 := ⟨_, rfl⟩
    rw [hw4] at hB4 hb4 ⊢
    clear hw3 hmax k0 k1 k2 f0 f1 f2 HIX HC2
    have k0 := hB4.cell 0
    have k1 := hB4.cell 1
    have k2 := hB4.cell 2
    have f0 := hB4.frozen 0
    have f1 := hB4.frozen 1
    have f2 := hB4.frozen 2
    simp only [List.getElem?_toArray, List.getElem?_cons_succ, List.getElem?_cons_zero] at k0 k1 k2
    obtain ⟨w5, hw5⟩ : ∃ w5, (w4.setCell ⟨w.heap.size, 1, none⟩ (.string u1)).setCell ⟨w.heap.size, 2, none⟩ (.string u2) = w5 := ⟨_, rfl⟩
    have hB5 : Blk w5 w.heap.size 40 #[.int .i64 K, .string u1, .string u2] := by rw [← hw5]; exact (hB4.put 1 _).put 2 _
    have hb5 : Below w.heap.size w w5 := by rw [← hw5]; exact (hb4.setCell (p := ⟨w.heap.size, 1, none⟩) (Nat.le_refl _) _).setCell (p := ⟨w.heap.size, 2, none⟩) (Nat.le_refl _) _
    have y0 := hB5.cell 0
    have y1 := hB5.cell 1
    have y2 := hB5.cell 2
    simp only [List.getElem?_toArray, List.getElem?_cons_succ, List.getElem?_cons_zero] at y0 y1 y2
    have H5 := Lib.hid (And.intro hb5 hB5)
    clear hB4 hb4 hB5 hb5 hw4
    go_wp2_with fail
    refine (HR.out w5).mono ?_
    rintro e w6 ⟨rfl, hb6⟩
    have hB6 := H5.out.2.below hb6 H5.out.2.lt
    have hw6 := H5.out.1.trans (hb6.mono H5.out.1.size)
    have z0 := hB6.cell 0
    have z1 := hB6.cell 1
    have z2 := hB6.cell 2
    have g0 := hB6.frozen 0
    have g1 := hB6.frozen 1
    have g2 := hB6.frozen 2
    simp only [List.getElem?_toArray, List.getElem?_cons_succ, List.getElem?_cons_zero] at z0 z1 z2
    have H6 := Lib.hid (And.intro hw6 hB6)
    clear hb6 hB6 hw6 y0 y1 y2 k0 k1 k2 f0 f1 f2 hw5 HR
    obtain ⟨R, hR⟩ : ∃ R, rightC K u1 u2 = R := ⟨_, rfl⟩
    rw [hR] at HOK ⊢
    clear hR
    cases R with
    | false =>
      have hok : ok = false := by rw [HOK.out.1]; simp
      have hrd : rd = chZ := by rw [HOK.out.2, hok]; rfl
      subst hok hrd
      obtain ⟨w9, hw9⟩ : ∃ w9, ((w6.setCell ⟨w.heap.size, 0, none⟩ (.int .i64 0)).setCell ⟨w.heap.size, 1, none⟩ (.string ⟨#[]⟩)).setCell ⟨w.heap.size, 2, none⟩ (.string ⟨#[]⟩) = w9 := ⟨_, rfl⟩
      have hB9 : Blk w9 w.heap.size 40 #[.int .i64 0, .string ⟨#[]⟩, .string ⟨#[]⟩] := by rw [← hw9]; exact ((H6.out.2.put 0 _).put 1 _).put 2 _
      have hb9 : Below w.heap.size w w9 := by rw [← hw9]; exact ((H6.out.1.setCell (p := ⟨w.heap.size, 0, none⟩) (Nat.le_refl _) _).setCell (p := ⟨w.heap.size, 1, none⟩) (Nat.le_refl _) _).setCell (p := ⟨w.heap.size, 2, none⟩) (Nat.le_refl _) _
      have H9 := Lib.hid (And.intro hb9 hB9)
      clear hB9 hb9
      go_wp2_with fail
      refine bodyPost_ret (res_blk_tmp rfl _ _ w.heap.size 40 #[.int .i64 0, .string ⟨#[]⟩, .string ⟨#[]⟩] _ rfl H9.out.2 Tryz.underlying40 rfl (by kernel_rfl)) rfl ⟨rfl, H9.out.1⟩
    | true =>
      go_wp2_with fail
      refine (HL.out w6).mono ?_
      rintro e w7 ⟨rfl, hb7⟩
      have hB7 := H6.out.2.below hb7 H6.out.2.lt
      have hw7 := H6.out.1.trans (hb7.mono H6.out.1.size)
      have y0 := hB7.cell 0
      have y1 := hB7.cell 1
      have y2 := hB7.cell 2
      have f0 := hB7.frozen 0
      have f1 := hB7.frozen 1
      have f2 := hB7.frozen 2
      simp only [List.getElem?_toArray, List.getElem?_cons_succ, List.getElem?_cons_zero] at y0 y1 y2
      have H7 := Lib.hid (And.intro hw7 hB7)
      have hsl := strD (lineC K u1 u2) s
      clear hb7 hB7 hw7 z0 z1 z2 g0 g1 g2 HL
      generalize lineC K u1 u2 = L at *
      obtain ⟨D, hD⟩ : ∃ D, decide (L = s) = D := ⟨_, rfl⟩
      rw [hD] at hsl HOK
      clear hD
      cases D with
      | false =>
        have hok : ok = false := by rw [HOK.out.1]; simp
        have hrd : rd = chZ := by rw [HOK.out.2, hok]; rfl
        subst hok hrd
        obtain ⟨w9, hw9⟩ : ∃ w9, ((w7.setCell ⟨w.heap.size, 0, none⟩ (.int .i64 0)).setCell ⟨w.heap.size, 1, none⟩ (.string ⟨#[]⟩)).setCell ⟨w.heap.size, 2, none⟩ (.string ⟨#[]⟩) = w9 := ⟨_, rfl⟩
        have hB9 : Blk w9 w.heap.size 40 #[.int .i64 0, .string ⟨#[]⟩, .string ⟨#[]⟩] := by rw [← hw9]; exact ((H7.out.2.put 0 _).put 1 _).put 2 _
        have hb9 : Below w.heap.size w w9 := by rw [← hw9]; exact ((H7.out.1.setCell (p := ⟨w.heap.size, 0, none⟩) (Nat.le_refl _) _).setCell (p := ⟨w.heap.size, 1, none⟩) (Nat.le_refl _) _).setCell (p := ⟨w.heap.size, 2, none⟩) (Nat.le_refl _) _
        have H9 := Lib.hid (And.intro hb9 hB9)
        clear hB9 hb9
        go_wp2_with fail
        refine bodyPost_ret (res_blk_tmp rfl _ _ w.heap.size 40 #[.int .i64 0, .string ⟨#[]⟩, .string ⟨#[]⟩] _ rfl H9.out.2 Tryz.underlying40 rfl (by kernel_rfl)) rfl ⟨rfl, H9.out.1⟩
      | true =>
        have hok : ok = true := by rw [HOK.out.1]; simp; rfl
        have hrd : rd = (K, u1, u2) := by rw [HOK.out.2, hok]; rfl
        subst hok hrd
        obtain ⟨w9, hw9⟩ : ∃ w9, ((w7.setCell ⟨w.heap.size, 0, none⟩ (.int .i64 K)).setCell ⟨w.heap.size, 1, none⟩ (.string u1)).setCell ⟨w.heap.size, 2, none⟩ (.string u2) = w9 := ⟨_, rfl⟩
        have hB9 : Blk w9 w.heap.size 40 #[.int .i64 K, .string u1, .string u2] := by rw [← hw9]; exact ((H7.out.2.put 0 _).put 1 _).put 2 _
        have hb9 : Below w.heap.size w w9 := by rw [← hw9]; exact ((H7.out.1.setCell (p := ⟨w.heap.size, 0, none⟩) (Nat.le_refl _) _).setCell (p := ⟨w.heap.size, 1, none⟩) (Nat.le_refl _) _).setCell (p := ⟨w.heap.size, 2, none⟩) (Nat.le_refl _) _
        have H9 := Lib.hid (And.intro hb9 hB9)
        clear hB9 hb9
        go_wp2_with fail
        refine bodyPost_ret (res_blk_tmp rfl _ _ w.heap.size 40 #[.int .i64 K, .string u1, .string u2] _ rfl H9.out.2 Tryz.underlying40 rfl (by kernel_rfl)) rfl ⟨rfl, H9.out.1⟩
  · have h1' : ¬ ((t1.size : Nat) : Int) = 1 := by omega
    have hok : ok = false := by rw [HOK.out.1, decide_eq_false h1]; rfl
    have hrd : rd = chZ := by rw [HOK.out.2, hok]; rfl
    subst hok hrd
    obtain ⟨w9, hw9⟩ : ∃ w9, ((w1.setCell ⟨w.heap.size, 0, none⟩ (.int .i64 0)).setCell ⟨w.heap.size, 1, none⟩ (.string ⟨#[]⟩)).setCell ⟨w.heap.size, 2, none⟩ (.string ⟨#[]⟩) = w9 := ⟨_, rfl⟩
    have hB9 : Blk w9 w.heap.size 40 #[.int .i64 0, .string ⟨#[]⟩, .string ⟨#[]⟩] := by rw [← hw9]; exact ((H1.out.2.put 0 _).put 1 _).put 2 _
    have hb9 : Below w.heap.size w w9 := by rw [← hw9]; exact ((H1.out.1.setCell (p := ⟨w.heap.size, 0, none⟩) (Nat.le_refl _) _).setCell (p := ⟨w.heap.size, 1, none⟩) (Nat.le_refl _) _).setCell (p := ⟨w.heap.size, 2, none⟩) (Nat.le_refl _) _
    have H9 := Lib.hid (And.intro hb9 hB9)
    clear hB9 hb9
    go_wp2_with fail
    refine bodyPost_ret (res_blk_tmp rfl _ _ w.heap.size 40 #[.int .i64 0, .string ⟨#[]⟩, .string ⟨#[]⟩] _ rfl H9.out.2 Tryz.underlying40 rfl (by kernel_rfl)) rfl ⟨rfl, H9.out.1⟩
end Go.Proofs.YtihiakkeloejlaaGreatDoor
/- DiffLines: the line of any change, and the change of any line. -/
set_option linter.unusedVariables false
set_option linter.unusedSimpArgs false
namespace Sw
theorem mem_spL : ∀ (l : List UInt8) (b : UInt8), b ∈ l → b = 47 ∨ ∃ x ∈ spL l, b ∈ x
  | a :: l, b, h => by
    rw [spL]
    rcases List.mem_cons.1 h with rfl | h
    · by_cases ha : b = 47
      · exact .inl ha
      · rw [if_neg ha]; exact .inr ⟨_, List.mem_cons_self .., List.mem_cons_self ..⟩
    · rcases mem_spL l b h with h1 | ⟨x, hx, hb⟩
      · exact .inl h1
      · refine .inr ?_
        split
        · exact ⟨x, List.mem_cons_of_mem _ hx, hb⟩
        · rw [← spL_head l] at hx
          rcases List.mem_cons.1 hx with rfl | hx
          · exact ⟨_, List.mem_cons_self .., List.mem_cons_of_mem _ hb⟩
          · exact ⟨x, List.mem_cons_of_mem _ hx, hb⟩
theorem right_nine {p : List UInt8} (h : rightL p = true) : (9 : UInt8) ∉ p := fun hm => by
  unfold rightL at h
  simp only [Bool.and_eq_true] at h
  rcases mem_spL p 9 hm with h1 | ⟨x, hx, hb⟩
  · exact absurd h1 (by decide)
  · have h2 := List.all_eq_true.1 h.2 x hx
    unfold partL at h2
    simp only [Bool.and_eq_true] at h2
    have h3 := List.all_eq_true.1 h2.1.1.1.1 9 hb
    exact absurd h3 (by decide)
theorem line_read {k : Int} {p f : ByteArray} (h : rightC k p f = true) : okL (lineC k p f) = true ∧ readC (lineC k p f) = (k, p, f) ∧ lineC k p f ≠ ⟨#[]⟩ := by
  have h' := h
  unfold rightC at h'
  simp only [Bool.and_eq_true, decide_eq_true_eq] at h'
  obtain ⟨⟨hk, hp⟩, hf⟩ := h'
  have hnp := right_nine hp
  have key : ∃ sg : UInt8, (32 : UInt8) ≠ sg ∧ sgnK ⟨#[sg]⟩ = k ∧ ∃ r, lineC k p f = ⟨#[sg]⟩ ++ ⟨#[32]⟩ ++ r ∧ (cutBy 9 r).1 = p ∧ (cutBy 9 r).2.1 = f := by
    unfold lineC
    rw [if_pos h]
    by_cases h4 : k = 4
    · subst h4
      rw [if_pos rfl]
      refine ⟨62, by decide, by decide, p ++ ⟨#[9]⟩ ++ f, ba_ext (by simp), ?_⟩
      rw [cutBy_hit hnp]
      exact ⟨rfl, rfl⟩
    · rw [if_neg h4] at hf ⊢
      have hf' : f = ⟨#[]⟩ := by simpa using hf
      have h1 : k = 1 ∨ k = 2 ∨ k = 3 ∨ k = 5 := by omega
      have hc := cutBy_miss hnp
      subst hf'
      rcases h1 with rfl | rfl | rfl | rfl
      · exact ⟨43, by decide, by decide, p, ba_ext (by simp), by rw [hc]; exact ⟨rfl, rfl⟩⟩
      · exact ⟨45, by decide, by decide, p, ba_ext (by simp), by rw [hc]; exact ⟨rfl, rfl⟩⟩
      · exact ⟨126, by decide, by decide, p, ba_ext (by simp), by rw [hc]; exact ⟨rfl, rfl⟩⟩
      · exact ⟨33, by decide, by decide, p, ba_ext (by simp), by rw [hc]; exact ⟨rfl, rfl⟩⟩
  obtain ⟨sg, h32, hsg, r, hl, h1, h2⟩ := key
  have hcut : cutBy 32 (lineC k p f) = (⟨#[sg]⟩, r, true) := by
    rw [hl]
    exact cutBy_hit (by simpa using h32)
  have hraw : rawC (lineC k p f) = (k, p, f) := by
    unfold rawC
    rw [hcut]
    simp only
    rw [hsg, h1, h2]
  have hok : okL (lineC k p f) = true := by
    unfold okL
    rw [hraw, hcut]
    simp only [h]
    simp
    rfl
  refine ⟨hok, by unfold readC; rw [if_pos hok, hraw], fun e => ?_⟩
  rw [e] at hcut
  have h9 : (false : Bool) = true := congrArg (fun t => t.2.2) hcut
  exact absurd h9 (by decide)
theorem line_noR {k : Int} {p f : ByteArray} (h : rightC k p f = false) : lineC k p f = ⟨#[]⟩ := by
  unfold lineC
  rw [if_neg (by rw [h]; decide)]
theorem okL_nil : okL ⟨#[]⟩ = false := by decide +kernel
theorem readC_size (s : ByteArray) : (readC s).2.1.size ≤ s.size ∧ (readC s).2.2.size ≤ s.size := by
  unfold readC
  split
  · have h1 := cutBy_size 32 s
    have h2 := cutBy_size 9 (cutBy 32 s).2.1
    exact ⟨Nat.le_trans h2.1 h1.2, Nat.le_trans h2.2 h1.2⟩
  · exact ⟨Nat.zero_le _, Nat.zero_le _⟩
end Sw
namespace Go.Proofs.YtihiakkeloejlaaGreatDoor
open Go Go.RowKit Go.Shelf
open Sw
set_option maxRecDepth 100000 in
set_option maxHeartbeats 4000000 in
theorem diffLines_main (w : World) (k : Int) (p f t : ByteArray) (hp : p.size ≤ maxLen) (hf : f.size ≤ maxLen) (ht : t.size ≤ maxLen) :
    Calls Tryz.prog 5 #[.agg #[.int .i64 k, .string p, .string f], .string t] w fun e w' => e = .returned (.bool true) ∧ Below w.heap.size w w' := by
  unfold maxLen at hp hf ht
  obtain ⟨n, hnm, hn7, hmin⟩ : ∃ n : Nat, n ≤ t.size ∧ n ≤ 700 ∧ min (t.size : Int) 700 = n := ⟨min t.size 700, by omega, by omega, by omega⟩
  have hts : (t.extract 0 n).size ≤ 700 := by rw [ByteArray.size_extract]; omega
  obtain ⟨W, hW⟩ : ∃ W, w.alloc (.cells #[.int .i64 k, .string p, .string f] 41) = W := ⟨_, rfl⟩
  have hb0 : Below w.heap.size w W := by rw [← hW]; exact (Below.refl _ w).alloc (Nat.le_refl _) _
  have hB0 : Blk W w.heap.size 41 #[.int .i64 k, .string p, .string f] := by rw [← hW]; exact Blk.new _ _ _
  have x0 := hB0.cell 0
  have x1 := hB0.cell 1
  have x2 := hB0.cell 2
  simp only [List.getElem?_toArray, List.getElem?_cons_succ, List.getElem?_cons_zero] at x0 x1 x2
  have HB := Lib.hid (And.intro hb0 hB0)
  have HW := Lib.hid hW
  clear hb0 hB0 hW
  obtain ⟨T, hT⟩ : ∃ T, t.extract 0 n = T := ⟨_, rfl⟩
  rw [hT] at hts
  by_cases hpf : p.size ≤ 300 ∧ f.size ≤ 300
  · obtain ⟨hp3, hf3⟩ := hpf
    have q1 : ¬ (300 : Int) < (p.size : Nat) := by omega
    have q2 : ¬ (300 : Int) < (f.size : Nat) := by omega
    have HRL := Lib.hid (fun W => refLine41_any W k p f (by omega) (by omega))
    have HDL := Lib.hid (fun W => diffLine_any W k p f (by omega) (by omega))
    have hls : (lineC k p f).size ≤ 1000000 := by
      unfold lineC
      split
      · split
        · simp only [ByteArray.size_append]; have : (⟨#[62, 32]⟩ : ByteArray).size = 2 := rfl; have : (⟨#[9]⟩ : ByteArray).size = 1 := rfl; omega
        · split
          · simp only [ByteArray.size_append]; have : (⟨#[43, 32]⟩ : ByteArray).size = 2 := rfl; omega
          · split
            · simp only [ByteArray.size_append]; have : (⟨#[45, 32]⟩ : ByteArray).size = 2 := rfl; omega
            · split
              · simp only [ByteArray.size_append]; have : (⟨#[126, 32]⟩ : ByteArray).size = 2 := rfl; omega
              · simp only [ByteArray.size_append]; have : (⟨#[33, 32]⟩ : ByteArray).size = 2 := rfl; omega
      · exact Nat.zero_le _
    have HRS := Lib.hid (fun W => diffRead_any W (lineC k p f) hls)
    have HRT := Lib.hid (fun W => diffRead_any W T (by omega))
    have hsz := readC_size T
    have HLT := Lib.hid (fun W => refLine41_any W (readC T).1 (readC T).2.1 (readC T).2.2 (by omega) (by omega))
    have hyes := fun (h : rightC k p f = true) => line_read h
    have hno := fun (h : rightC k p f = false) => line_noR h
    have hTy := fun (h : okL T = true) => (read_okR h).1
    have hTn := fun (h : okL T = false) => (show readC T = chZ by unfold readC; rw [if_neg (by rw [h]; decide)])
    have hse := strEm (lineC k p f)
    obtain ⟨R, hR⟩ : ∃ R, rightC k p f = R := ⟨_, rfl⟩
    rw [hR] at hyes hno
    obtain ⟨S, hS⟩ : ∃ S, lineC k p f = S := ⟨_, rfl⟩
    rw [hS] at HRL HDL HRS hyes hno hse
    obtain ⟨OK, hOK⟩ : ∃ o, okL S = o := ⟨_, rfl⟩
    rw [hOK] at HRS hyes
    obtain ⟨⟨rk, rp, rf⟩, hrs⟩ : ∃ r, readC S = r := ⟨_, rfl⟩
    rw [hrs] at HRS hyes
    obtain ⟨OT, hOT⟩ : ∃ o, okL T = o := ⟨_, rfl⟩
    rw [hOT] at HRT hTy hTn
    obtain ⟨⟨tk, tp, tf⟩, htr⟩ : ∃ r, readC T = r := ⟨_, rfl⟩
    rw [htr] at HRT HLT hTy hTn
    have hfact : (R = true → OK = true ∧ rk = k ∧ rp = p ∧ rf = f ∧ S.toList.isEmpty = false) ∧ (R = false → OK = false ∧ S = ⟨#[]⟩) := ⟨fun h => by
        obtain ⟨h1, h2, h3⟩ := hyes h
        injection h2 with e1 e2
        injection e2 with e2 e3
        exact ⟨h1, e1, e2, e3, by rw [hse]; exact decide_eq_false h3⟩, fun h => ⟨by rw [← hOK, hno h]; exact okL_nil, hno h⟩⟩
    have hfT : (OT = true → lineC tk tp tf = T) ∧ (OT = false → tk = 0 ∧ tp = ⟨#[]⟩ ∧ tf = ⟨#[]⟩) := ⟨hTy, fun h => by
        have h2 := hTn h
        injection h2 with e1 e2
        injection e2 with e2 e3
        exact ⟨e1, e2, e3⟩⟩
    clear hR hS hOK hrs hOT htr hyes hno hTy hTn hse hsz hls hp hf ht
    simp only at HRS HRT HLT
    obtain ⟨LT, hLT⟩ : ∃ L, lineC tk tp tf = L := ⟨_, rfl⟩
    rw [hLT] at HLT hfT
    clear hLT
    have HF := Lib.hid hfact
    have HFT := Lib.hid hfT
    clear hfact hfT hp3 hf3 hts
    go_enter Tryz.func5, Tryz.ntmps5
    go_upto_region 1 with fail
    rw [HW.out]
    go_wp2_with fail
    refine (HRL.out _).mono ?_
    rintro e w1 ⟨rfl, hb1⟩
    have H1 := Lib.hid (And.intro (HB.out.1.trans (hb1.mono HB.out.1.size)) (HB.out.2.below hb1 HB.out.2.lt))
    clear hb1 HRL x0 x1 x2
    go_wp2_with fail
    refine (HRS.out _).mono ?_
    rintro e w2 ⟨rfl, hb2⟩
    obtain ⟨W2, hW2⟩ : ∃ W, w2.alloc (.cells #[.int .i64 rk, .string rp, .string rf] 40) = W := ⟨_, rfl⟩
    have hbW2 : Below w1.heap.size w1 W2 := by rw [← hW2]; exact hb2.alloc hb2.size _
    have hA2 : Blk W2 w2.heap.size 40 #[.int .i64 rk, .string rp, .string rf] := by rw [← hW2]; exact Blk.new _ _ _
    have H2 := Lib.hid (And.intro (H1.out.1.trans (hbW2.mono H1.out.1.size)) (And.intro (H1.out.2.below hbW2 H1.out.2.lt) hA2))
    clear hb2 hbW2 hA2 HRS
    go_wp2_with fail
    refine (HRT.out _).mono ?_
    rintro e w3 ⟨rfl, hb3⟩
    obtain ⟨gA, hgA⟩ : ∃ n, w2.heap.size = n := ⟨_, rfl⟩
    obtain ⟨gB, hgB⟩ : ∃ n, w3.heap.size = n := ⟨_, rfl⟩
    obtain ⟨W3, hW3⟩ : ∃ W, w3.alloc (.cells #[.int .i64 tk, .string tp, .string tf] 40) = W := ⟨_, rfl⟩
    have hbW3 : Below W2.heap.size W2 W3 := by rw [← hW3]; exact hb3.alloc hb3.size _
    have hB3 : Blk W3 gB 40 #[.int .i64 tk, .string tp, .string tf] := by rw [← hW3, ← hgB]; exact Blk.new _ _ _
    have hA3 := H2.out.2.2.below hbW3 H2.out.2.2.lt
    have hC3 := H2.out.2.1.below hbW3 H2.out.2.1.lt
    rw [hgA] at hA3
    have H3 := Lib.hid (And.intro (H2.out.1.trans (hbW3.mono H2.out.1.size)) (And.intro hC3 (And.intro hA3 hB3)))
    have x0 := hC3.cell 0
    have x1 := hC3.cell 1
    have x2 := hC3.cell 2
    simp only [List.getElem?_toArray, List.getElem?_cons_succ, List.getElem?_cons_zero] at x0 x1 x2
    clear hb3 hbW3 hB3 hA3 hC3 HRT hW2
    go_wp2_with fail
    refine (HDL.out _).mono ?_
    rintro e w4 ⟨rfl, hb4⟩
    have hC4 := H3.out.2.1.below hb4 H3.out.2.1.lt
    have hA4 := H3.out.2.2.1.below hb4 H3.out.2.2.1.lt
    have hB4 := H3.out.2.2.2.below hb4 H3.out.2.2.2.lt
    have H4 := Lib.hid (H3.out.1.trans (hb4.mono H3.out.1.size))
    clear x0 x1 x2 hW3 hgA hgB
    have x0 := hC4.cell 0
    have x1 := hC4.cell 1
    have x2 := hC4.cell 2
    have a0 := hA4.cell 0
    have a1 := hA4.cell 1
    have a2 := hA4.cell 2
    have b0 := hB4.cell 0
    have b1 := hB4.cell 1
    have b2 := hB4.cell 2
    simp only [List.getElem?_toArray, List.getElem?_cons_succ, List.getElem?_cons_zero] at x0 x1 x2 a0 a1 a2 b0 b1 b2
    have fin : ∀ wz, Below w.heap.size w wz → Calls Tryz.prog 7 #[] wz fun e w' => e = .returned (.bool true) ∧ Below wz.heap.size wz w' := fun wz _ => diff_lives wz
    have HLV := Lib.hid fin
    clear fin hb4 hC4 hA4 hB4 HDL
    cases R with
    | false =>
      obtain ⟨hok, hS⟩ := HF.out.2 rfl
      subst hok hS
      cases OT with
      | false =>
        obtain ⟨rfl, rfl, rfl⟩ := HFT.out.2 rfl
        go_wp2_with fail
        refine (HLV.out w4 H4.out).mono ?_
        rintro e w5 ⟨rfl, hb5⟩
        have H5 := Lib.hid (H4.out.trans (hb5.mono H4.out.size)); clear hb5
        go_wp2_with fail
        go_ret
        exact ⟨rfl, H5.out⟩
      | true =>
        obtain rfl := HFT.out.1 rfl
        go_wp2_with fail
        refine (HLT.out w4).mono ?_
        rintro e w5 ⟨rfl, hb5⟩
        have H5 := Lib.hid (H4.out.trans (hb5.mono H4.out.size)); clear hb5 x0 x1 x2 a0 a1 a2 b0 b1 b2
        go_wp2_with fail
        refine (HLV.out w5 H5.out).mono ?_
        rintro e w6 ⟨rfl, hb6⟩
        have H6 := Lib.hid (H5.out.trans (hb6.mono H5.out.size)); clear hb6
        go_wp2_with fail
        go_ret
        exact ⟨rfl, H6.out⟩
    | true =>
      obtain ⟨hok, rfl, rfl, rfl, hem⟩ := HF.out.1 rfl
      subst hok
      cases OT with
      | false =>
        obtain ⟨rfl, rfl, rfl⟩ := HFT.out.2 rfl
        go_wp2_with fail
        refine (HLV.out w4 H4.out).mono ?_
        rintro e w5 ⟨rfl, hb5⟩
        have H5 := Lib.hid (H4.out.trans (hb5.mono H4.out.size)); clear hb5
        go_wp2_with fail
        go_ret
        exact ⟨rfl, H5.out⟩
      | true =>
        obtain rfl := HFT.out.1 rfl
        go_wp2_with fail
        refine (HLT.out w4).mono ?_
        rintro e w5 ⟨rfl, hb5⟩
        have H5 := Lib.hid (H4.out.trans (hb5.mono H4.out.size)); clear hb5 x0 x1 x2 a0 a1 a2 b0 b1 b2
        go_wp2_with fail
        refine (HLV.out w5 H5.out).mono ?_
        rintro e w6 ⟨rfl, hb6⟩
        have H6 := Lib.hid (H5.out.trans (hb6.mono H5.out.size)); clear hb6
        go_wp2_with fail
        go_ret
        exact ⟨rfl, H6.out⟩
  · have hsz : 300 < p.size ∨ 300 < f.size := by omega
    have HSZ := Lib.hid hsz
    by_cases hp3 : p.size ≤ 300
    · have q1 : ¬ (300 : Int) < (p.size : Nat) := by omega
      have q2 : (300 : Int) < (f.size : Nat) := by omega
      clear hsz hpf hp3 hp hf ht
      go_enter Tryz.func5, Tryz.ntmps5
      go_upto_region 1 with fail
      rw [HW.out]
      go_wp2_with fail
      refine (diff_lives _).mono ?_
      rintro e w2 ⟨rfl, hb2⟩
      have H2 := Lib.hid (HB.out.1.trans (hb2.mono HB.out.1.size)); clear hb2
      go_wp2_with fail
      go_ret
      exact ⟨rfl, H2.out⟩
    · have q1 : (300 : Int) < (p.size : Nat) := by omega
      clear hsz hpf hp3 hp hf ht
      go_enter Tryz.func5, Tryz.ntmps5
      go_upto_region 1 with fail
      rw [HW.out]
      go_wp2_with fail
      refine (diff_lives _).mono ?_
      rintro e w2 ⟨rfl, hb2⟩
      have H2 := Lib.hid (HB.out.1.trans (hb2.mono HB.out.1.size)); clear hb2
      go_wp2_with fail
      go_ret
      exact ⟨rfl, H2.out⟩
end Go.Proofs.YtihiakkeloejlaaGreatDoor
/- The walk of DiffLines in the statement's form. -/
set_option linter.unusedVariables false
set_option linter.unusedSimpArgs false
namespace Go.Proofs.YtihiakkeloejlaaGreatDoor
open Go Go.ChangeShapes Go.WideShapes Go.ChangeAt Go.RowKit
open Go.ChangeMaps (open_string)
open Sw
set_option maxRecDepth 100000 in
/-- an argument that is a change -/
theorem open_chg41 {H : Type} {enc : TypeId × Value → H} {w : World} {r : Reach} {b0 : Nat} {v : Value} {d : DataW H} {p : List MemPlace} (hv : Value.okWide Tryz.prog w r b0 41 v) (h : DataW.Trod enc Tryz.prog w 0 (fun _ => true) true 41 v d p) :
    ∃ (a : Int) (s t : ByteArray), v = .agg #[.int .i64 a, .string s, .string t] ∧ s.size ≤ maxLen ∧ t.size ≤ maxLen := by
  obtain ⟨cs, rfl, hsz⟩ := okWide_struct Tryz.underlying41 hv
  obtain ⟨fuel, hf⟩ := h
  obtain ⟨hl, hfs⟩ := dec_fields Tryz.underlying41 (by kernel_rfl) (by kernel_rfl) hf
  have hl2 : cs.toList.length = 3 := hl
  obtain ⟨c0, c1, c2, hc⟩ : ∃ c0 c1 c2, cs.toList = [c0, c1, c2] := by
    match hcs : cs.toList, hl2 with
    | [c0, c1, c2], _ => exact ⟨c0, c1, c2, rfl⟩
  have hcc : cs = #[c0, c1, c2] := Array.ext' hc
  subst hcc
  obtain ⟨v0, n0, y0, e0, h0⟩ := hfs 0 _ rfl
  obtain ⟨v1, n1, y1, e1, h1⟩ := hfs 1 _ rfl
  obtain ⟨v2, n2, y2, e2, h2⟩ := hfs 2 _ rfl
  simp [Value.cells] at e0 e1 e2
  subst e0 e1 e2
  obtain ⟨a, ea, _, _⟩ := DataW.trod_int Tryz.underlying3 h0
  obtain ⟨s, es, _, hs⟩ := DataW.trod_string Tryz.underlying9 h1
  obtain ⟨t, et, _, ht⟩ := DataW.trod_string Tryz.underlying9 h2
  simp at es et ea
  exact ⟨a, s, t, by rw [ea, es, et], hs, ht⟩
set_option maxRecDepth 100000 in
theorem diffLines_walk : Walks 5 Tryz.f5 := by
  intro H enc W base args ds ps hval hA hlt hsz
  rw [Tryz.params5] at hA hval
  obtain ⟨v0, v1, d0, d1, p0, p1, rfl, rfl, rfl, h0, h1⟩ := trodAll_two hA
  obtain ⟨k, p, f, rfl, hp, hf⟩ := open_chg41 (hval 0 41 v0 rfl rfl) h0
  obtain ⟨t, rfl, rfl, rfl, ht⟩ := open_string Tryz.underlying9 (hval 1 9 v1 rfl rfl) h1
  exact diffLines_main W k p f t hp hf ht
end Go.Proofs.YtihiakkeloejlaaGreatDoor
