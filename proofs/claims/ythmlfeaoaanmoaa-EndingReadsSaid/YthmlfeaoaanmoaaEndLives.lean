/- The document's example of layer 21. -/
import Derived.Test.YthmlfeaoaanmoaaEndFindB
import Derived.Deep.RegionHeld3
set_option linter.unusedVariables false
set_option linter.unusedSimpArgs false
namespace Go.Proofs.Ythmlfeaoaanmoaa
open Go.RowKit
open Sw
set_option maxRecDepth 100000 in
set_option maxHeartbeats 4000000 in
theorem endWrite_nil (w : World) :
    Calls Try.prog 74 #[.agg #[.int .i64 0, .int .i64 0, .int .i64 0, .int .i64 0], .string ⟨#[]⟩] w fun e w' => (∃ l : List UInt8, e = .returned (.string ⟨l.toArray⟩) ∧ l.length = 22) ∧ Below w.heap.size w w' := by
  have hr := fun W => endRight_any 0 0 0 0 W
  rw [show rI 0 0 0 0 = true by decide] at hr
  have HB := Lib.hid ((Below.refl w.heap.size w).alloc (Nat.le_refl _) (.cells #[.int .i64 0, .int .i64 0, .int .i64 0, .int .i64 0] 84))
  have hbx := Blk.new w 84 #[.int .i64 0, .int .i64 0, .int .i64 0, .int .i64 0]
  have c3 := hbx.cell 3
  have f3 := hbx.frozen 3
  simp at c3
  have hwz : IntKind.u64.wrap 0 = 0 := by decide
  go_enter Try.func74, Try.ntmps74
  go_wp2_with fail
  refine (hr _).mono ?_
  rintro e w1 ⟨rfl, h1⟩
  go_wp2_with fail
  have hg := hbx.below h1 (by simp)
  have hB1 := HB.out.trans (h1.mono (by simp))
  have hsz1 : w.heap.size < w1.heap.size := by have := h1.size; simp at this; omega
  have hW1 : Below w.heap.size w (w1.alloc (Obj.cells #[.pointer none, .slice none 0 0] 135)) := hB1.alloc hB1.size _
  have hg1 := hg.alloc (Obj.cells #[.pointer none, .slice none 0 0] 135)
  have hfr := bld_fresh w1
  have hzb : (w1.alloc (Obj.cells #[.pointer none, .slice none 0 0] 135)).heap.size = w1.heap.size + 1 := by simp
  generalize hw2 : w1.alloc (Obj.cells #[.pointer none, .slice none 0 0] 135) = w2 at *
  clear hw2 h1 hg hB1 hbx hr HB c3 f3
  generalize w1.heap.size = b at *
  clear w1
  generalize hgw : w.heap.size = g1 at *
  have HGE := Lib.hid hgw
  clear hgw
  have hgb : g1 ≠ b := by omega
  have HNE := Lib.hid hgb; clear hgb
  have HC : Hid (∀ W, Blk W g1 84 #[.int .i64 0, .int .i64 0, .int .i64 0, .int .i64 0] → W.cell? ⟨g1, 0, none⟩ = some (.int .i64 0) ∧ W.cell? ⟨g1, 1, none⟩ = some (.int .i64 0) ∧ W.cell? ⟨g1, 2, none⟩ = some (.int .i64 0) ∧ W.cell? ⟨g1, 3, none⟩ = some (.int .i64 0)) := Lib.hid fun W h => ⟨by simpa using h.cell 0, by simpa using h.cell 1, by simpa using h.cell 2, by simpa using h.cell 3⟩
  have hN : ∀ (k : Nat) (x : Nat) (bs : List UInt8) (hx : x < 2 ^ 64) (hk : k ≤ 8) (hn : max 0 (min (k : Int) 8) = (k : Int)) (hl : bs.length ≤ 100) (W : World), Bld b b (Lib.byteCells bs) W →
      Calls Try.prog 86 #[.pointer (some ⟨b, 0, none⟩), .int .u64 x, .int .i64 k] W fun e w' => e = .returned (.pointer (some ⟨b, 0, none⟩)) ∧ Bld b b (Lib.byteCells (bs ++ putL x k)) w' ∧ Below b W w' ∧ Lib.OthersKept 5 (some b) W w' :=
    fun k x bs hx hk hn hl W h => writerNum_any b b bs x k W hx k hk hn h (Nat.le_of_lt h.lt) (by omega)
  obtain ⟨L1, e1, l1⟩ : ∃ L : List UInt8, L = [] ++ putL 101010256 4 ∧ L.length = 4 := ⟨_, rfl, by simp [putL_length]⟩
  obtain ⟨L2, e2, l2⟩ : ∃ L : List UInt8, L = L1 ++ putL 0 4 ∧ L.length = 8 := ⟨_, rfl, by simp [putL_length, l1]⟩
  obtain ⟨L3, e3, l3⟩ : ∃ L : List UInt8, L = L2 ++ putL 0 2 ∧ L.length = 10 := ⟨_, rfl, by simp [putL_length, l2]⟩
  obtain ⟨L4, e4, l4⟩ : ∃ L : List UInt8, L = L3 ++ putL 0 2 ∧ L.length = 12 := ⟨_, rfl, by simp [putL_length, l3]⟩
  obtain ⟨L5, e5, l5⟩ : ∃ L : List UInt8, L = L4 ++ putL 0 4 ∧ L.length = 16 := ⟨_, rfl, by simp [putL_length, l4]⟩
  obtain ⟨L6, e6, l6⟩ : ∃ L : List UInt8, L = L5 ++ putL 0 4 ∧ L.length = 20 := ⟨_, rfl, by simp [putL_length, l5]⟩
  obtain ⟨L7, e7, l7⟩ : ∃ L : List UInt8, L = L6 ++ putL 0 2 ∧ L.length = 22 := ⟨_, rfl, by simp [putL_length, l6]⟩
  have h1 := hN 4 101010256 [] (by decide) (by decide) (by decide) (by decide)
  have h2 := hN 4 0 L1 (by decide) (by decide) (by decide) (by omega)
  have h3 := hN 2 0 L2 (by decide) (by decide) (by decide) (by omega)
  have h4 := hN 2 0 L3 (by decide) (by decide) (by decide) (by omega)
  have h5 := hN 4 0 L4 (by decide) (by decide) (by decide) (by omega)
  have h6 := hN 4 0 L5 (by decide) (by decide) (by decide) (by omega)
  have h7 := hN 2 0 L6 (by decide) (by decide) (by decide) (by omega)
  rw [← e1] at h1
  rw [← e2] at h2
  rw [← e3] at h3
  rw [← e4] at h4
  rw [← e5] at h5
  rw [← e6] at h6
  rw [← e7] at h7
  clear hN e1 e2 e3 e4 e5 e6 e7
  simp only [show (((101010256 : Nat) : Int)) = 101010256 from rfl, show (((0 : Nat) : Int)) = 0 from rfl, show (((4 : Nat) : Int)) = 4 from rfl, show (((2 : Nat) : Int)) = 2 from rfl] at h1 h2 h3 h4 h5 h6 h7
  have HT := Lib.hid (And.intro h1 (And.intro h2 (And.intro h3 h4))); clear h1 h2 h3 h4
  have HU := Lib.hid (And.intro h5 (And.intro h6 h7)); clear h5 h6 h7
  have HL := Lib.hid l7; clear l1 l2 l3 l4 l5 l6 l7
  obtain ⟨g0, g1', g2', g3'⟩ := HC.out _ hg1
  have HG := Lib.hid hg1; clear hg1
  have HFR := Lib.hid hfr; clear hfr
  have HW1 := Lib.hid hW1; clear hW1
  have HA : Hid (Blk w2.drew g1 84 #[.int .i64 0, .int .i64 0, .int .i64 0, .int .i64 0]) := Lib.hid HG.out.drew
  have HBA : Hid (Bld b b (Lib.byteCells []) w2.drew) := Lib.hid (HFR.out.below (B' := 0) ((Below.refl _ w2).drew))
  have HLT : Hid (Below b w2 w2.drew) := Lib.hid (Below.refl b w2).drew
  go_region_held3 (fun w' => w'.cell? ⟨g1, 0, none⟩ = some (.int .i64 0))
    (first | exact g0 | exact (HC.out _ (others_blk hox4 (others_blk hox3 (others_blk hox2 (others_blk hox1 HA.out HNE.out (by decide)) HNE.out (by decide)) HNE.out (by decide)) HNE.out (by decide))).1 | exact (HC.out _ (others_blk hox3 (others_blk hox2 (others_blk hox1 HA.out HNE.out (by decide)) HNE.out (by decide)) HNE.out (by decide))).1 | exact (HC.out _ (others_blk hox2 (others_blk hox1 HA.out HNE.out (by decide)) HNE.out (by decide))).1 | exact (HC.out _ (others_blk hox1 HA.out HNE.out (by decide))).1 | exact (HC.out _ HA.out).1)
    (first | (go_at_call 86; (with_reducible refine (HT.out.1 _ HBA.out).mono ?_); rintro e x1 ⟨rfl, hx1, hbx1, hox1⟩) | (go_at_call 86; have hh := hx1; clear hx1; (with_reducible refine (HT.out.2.1 _ hh).mono ?_); rintro e x2 ⟨rfl, hx2, hbx2, hox2⟩) | (go_at_call 86; have hh := hx2; clear hx2; (with_reducible refine (HT.out.2.2.1 _ hh).mono ?_); rintro e x3 ⟨rfl, hx3, hbx3, hox3⟩) | (go_at_call 86; have hh := hx3; clear hx3; (with_reducible refine (HT.out.2.2.2 _ hh).mono ?_); rintro e x4 ⟨rfl, hx4, hbx4, hox4⟩))
  have hg4 := others_blk hox4 (others_blk hox3 (others_blk hox2 (others_blk hox1 HA.out HNE.out (by decide)) HNE.out (by decide)) HNE.out (by decide)) HNE.out (by decide)
  have hb4 := HW1.out.trans (((((HLT.out.trans hbx1).trans hbx2).trans hbx3).trans hbx4).mono (Nat.le_of_lt hsz1))
  clear hbx1 hbx2 hbx3 hbx4 hox1 hox2 hox3 hox4 HA HBA HLT g0 g1' g2' g3' HG HFR HW1
  obtain ⟨g0, g1', g2', g3'⟩ := HC.out _ hg4
  have HA : Hid (Blk x4.drew g1 84 #[.int .i64 0, .int .i64 0, .int .i64 0, .int .i64 0]) := Lib.hid hg4.drew
  have HBA : Hid (Bld b b (Lib.byteCells L4) x4.drew) := Lib.hid (hx4.below (B' := 0) ((Below.refl _ x4).drew))
  have HLT : Hid (Below g1 w x4.drew) := Lib.hid hb4.drew
  clear hg4 hb4 hx4
  go_wp2_with fail
  go_region_held3 (fun w' => w'.cell? ⟨g1, 1, none⟩ = some (.int .i64 0) ∧ w'.cell? ⟨g1, 2, none⟩ = some (.int .i64 0) ∧ w'.cell? ⟨g1, 3, none⟩ = some (.int .i64 0))
    (first | exact ⟨g1', g2', g3'⟩ | exact (HC.out _ (others_blk hox3 (others_blk hox2 (others_blk hox1 HA.out HNE.out (by decide)) HNE.out (by decide)) HNE.out (by decide))).2 | exact (HC.out _ (others_blk hox2 (others_blk hox1 HA.out HNE.out (by decide)) HNE.out (by decide))).2 | exact (HC.out _ (others_blk hox1 HA.out HNE.out (by decide))).2 | exact (HC.out _ HA.out).2)
    (first | (go_at_call 86; (with_reducible refine (HU.out.1 _ HBA.out).mono ?_); rintro e x1 ⟨rfl, hx1, hbx1, hox1⟩) | (go_at_call 86; have hh := hx1; clear hx1; (with_reducible refine (HU.out.2.1 _ hh).mono ?_); rintro e x2 ⟨rfl, hx2, hbx2, hox2⟩) | (go_at_call 86; have hh := hx2; clear hx2; (with_reducible refine (HU.out.2.2 _ hh).mono ?_); rintro e x3 ⟨rfl, hx3, hbx3, hox3⟩))
  have hb7 := HLT.out.trans (((hbx1.trans hbx2).trans hbx3).mono (Nat.le_of_lt hsz1))
  clear hbx1 hbx2 hbx3 hox1 hox2 hox3 HA HBA HLT g0 g1' g2' g3'
  have hT : ∀ (W : World), Bld b b (Lib.byteCells L7) W → b < W.heap.size →
      Calls Try.prog 87 #[.pointer (some ⟨b, 0, none⟩), .slice (some ⟨W.heap.size, 0, none⟩) 1 1] (W.alloc (.cells #[.string ⟨#[]⟩] 9)) fun e w' => e = .returned (.pointer (some ⟨b, 0, none⟩)) ∧ Bld b b (Lib.byteCells L7) w' ∧ Below b W w' := by
    intro W h hlt
    refine (writerText_any b b W.heap.size L7 [⟨#[]⟩] (W.alloc (.cells #[.string ⟨#[]⟩] 9)) (h.alloc _) (by simp; omega) (Blk.new _ _ _) (by omega) (by rw [HL.out]; simp [catL]) (by simp)).mono ?_
    rintro e w' ⟨he, h1, h2, _⟩
    refine ⟨he, ?_, ((Below.refl b W).alloc (by omega) _).trans h2⟩
    rw [show catL [⟨#[]⟩] = [] from rfl, List.append_nil] at h1
    exact h1
  have HX := Lib.hid (And.intro hx3 hb7)
  have HT := Lib.hid (hT x3 hx3 hx3.lt); clear hT hx3 hb7
  go_wp2_with fail
  refine HT.out.mono ?_
  rintro e x8 ⟨rfl, hx8, hb8⟩
  have HX8 := Lib.hid (And.intro hx8 (HX.out.2.trans (hb8.mono (Nat.le_of_lt hsz1)))); clear hx8 hb8
  go_wp2_with fail
  refine (writerBytes_any b b L7 x8 HX8.out.1 (Nat.le_of_lt HX8.out.1.lt)).mono ?_
  rintro e x9 ⟨rfl, _, hb9, _⟩
  have HX9 := Lib.hid (HX8.out.2.trans (hb9.mono (Nat.le_of_lt hsz1))); clear hb9
  go_wp2_with fail
  go_ret
  refine ⟨⟨L7, rfl, HL.out⟩, ?_⟩
  rw [HGE.out]
  exact HX9.out
set_option maxRecDepth 100000 in
set_option maxHeartbeats 2000000 in
theorem end_lives (w : World) : Calls Try.prog 52 #[] w fun e w' => e = .returned (.bool true) ∧ Below w.heap.size w w' := by
  have HC := Lib.hid (endWrite_nil w)
  go_enter Try.func52, Try.ntmps52
  go_wp2_with fail
  refine HC.out.mono ?_
  rintro e w1 ⟨⟨l, rfl, hl⟩, h1⟩
  have hz : ({ data := l.toArray } : ByteArray).size = 22 := by simpa [ByteArray.size] using hl
  go_wp2_with fail
  go_ret
  exact ⟨rfl, h1⟩
end Go.Proofs.Ythmlfeaoaanmoaa
