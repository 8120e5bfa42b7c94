/- Contracts of layer 25: Right, Sectors, Pad, Write, Read. -/
import Derived.Test.YtpnkgldpmalklaaCommitPlain
import Derived.Test.YtpnkgldpmalklaaWriter
import Derived.Test.YtpnkgldpmalklaaFieldNum
import Derived.Test.YtpnkgldpmalklaaSumFeed
import Derived.Test.YtpnkgldpmalklaaShelf
import Derived.Test.YtpnkgldpmalklaaSlMore
import Derived.Test.YtpnkgldpmalklaaHeld
set_option linter.unusedVariables false
set_option linter.unusedSimpArgs false
namespace Go.Proofs.Ytpnkgldpmalklaa
open Go.RowKit
open Sw
theorem ret_i {k : IntKind} {a b : Int} (h : a = b) : Ending.returned (.int k a) = .returned (.int k b) := by rw [h]
def markV (t l : Int) : Value := .agg #[.int .i64 t, .int .i64 l]
set_option maxRecDepth 100000 in
theorem cRight_any (t l : Int) (w : World) :
    Calls Try.prog 42 #[.agg #[.int .i64 t, .int .i64 l]] w fun e w' => e = .returned (.bool (mOk t l)) ∧ Below w.heap.size w w' := by
  have hB := (Below.refl w.heap.size w).alloc (Nat.le_refl _) (.cells #[.int .i64 t, .int .i64 l] 77)
  have HB := Lib.hid hB; clear hB
  by_cases h1 : 0 ≤ t
  · by_cases h2 : t ≤ 1099511627776
    · by_cases h3 : 534 ≤ l
      · by_cases h4 : l ≤ 4194304
        · have hm : mOk t l = true := by simp [mOk]; omega
          rw [hm]; clear hm
          go_enter Try.func42, Try.ntmps42
          go_wp2
          go_ret
          exact ⟨rfl, HB.out⟩
        · have hm : mOk t l = false := by simp [mOk]; omega
          rw [hm]; clear hm
          go_enter Try.func42, Try.ntmps42
          go_wp2
          go_ret
          exact ⟨rfl, HB.out⟩
      · have hm : mOk t l = false := by simp [mOk]; omega
        rw [hm]; clear hm
        go_enter Try.func42, Try.ntmps42
        go_wp2
        go_ret
        exact ⟨rfl, HB.out⟩
    · have hm : mOk t l = false := by simp [mOk]; omega
      rw [hm]; clear hm
      go_enter Try.func42, Try.ntmps42
      go_wp2
      go_ret
      exact ⟨rfl, HB.out⟩
  · have hm : mOk t l = false := by simp [mOk]; omega
    rw [hm]; clear hm
    go_enter Try.func42, Try.ntmps42
    go_wp2
    go_ret
    exact ⟨rfl, HB.out⟩
set_option maxRecDepth 100000 in
theorem cSectors_any (n : Nat) (w : World) (hn : n ≤ 1000000) :
    Calls Try.prog 51 #[.int .i64 n] w fun e w' => e = .returned (.int .i64 (((n + 511) / 512 : Nat) : Int)) ∧ w = w' := by
  have h1 : max 0 (min (n : Int) 1099511627776) = (n : Int) := by omega
  go_enter Try.func51, Try.ntmps51
  go_wp2
  go_ret
  exact ⟨ret_i (by omega), rfl⟩
theorem repeatL_zero (n : Nat) : Lib.repeatL [(0 : UInt8)] n = List.replicate n 0 := by
  induction n with
  | zero => rfl
  | succ n ih => rw [List.replicate_succ, ← ih]; rfl
def padL (l : List UInt8) : List UInt8 := l ++ List.replicate (512 * ((l.length + 511) / 512) - l.length) 0
set_option maxRecDepth 100000 in
theorem cPad_any (s : ByteArray) (w : World) (hs : s.size ≤ 100000) :
    Calls Try.prog 48 #[.string s] w fun e w' => e = .returned (.string ⟨(padL s.data.toList).toArray⟩) ∧ Below w.heap.size w w' := by
  obtain ⟨n, hn⟩ : ∃ n : Nat, n = 512 * ((s.size + 511) / 512) - s.size := ⟨_, rfl⟩
  have h1 : (512 * (((s.size : Int) + 511) / 512)) - (s.size : Int) = (n : Int) := by omega
  have h0 : (512 * (((s.size : Int) + 511) / 512)) ≤ 1000000 := by omega
  have h00 : 0 ≤ (512 * (((s.size : Int) + 511) / 512)) := by omega
  have hrep := fun W => Try.strings_Repeat ⟨#[0]⟩ n W (by omega) (by rw [show (ByteArray.mk #[(0 : UInt8)]).size = 1 from rfl]; omega)
  have hsz : s.data.toList.length = s.size := by rw [Array.length_toList]; rfl
  have hfin : s ++ { data := (Lib.repeatL (ByteArray.mk #[0]).data.toList n).toArray } = { data := (padL s.data.toList).toArray } := by
    apply ByteArray.ext
    rw [ByteArray.data_append]
    apply Array.ext'
    rw [show (ByteArray.mk #[(0 : UInt8)]).data.toList = [0] from rfl, repeatL_zero]
    simp only [padL, hsz, hn, Array.toList_append]
  have HF := Lib.hid hfin; clear hfin
  have HN := Lib.hid hn; clear hn
  have H1 := Lib.hid h1
  go_enter Try.func48, Try.ntmps48
  go_wp2_with (go_at_call 51; (with_reducible refine (cSectors_any s.size _ (by omega)).mono ?_); rintro e w1 ⟨rfl, rfl⟩)
  refine (hrep _).mono ?_
  rintro e w2 ⟨rfl, hb2⟩
  have hlen : s.size + (Lib.repeatL (ByteArray.mk #[0]).data.toList n).length ≤ 9223372036854775807 := by
    rw [show (ByteArray.mk #[(0 : UInt8)]).data.toList = [0] from rfl, repeatL_zero, List.length_replicate]; omega
  go_wp2
  go_ret
  exact ⟨by show Ending.returned (Value.string _) = _; rw [HF.out], hb2⟩
/-- what is written of a mark -/
def writeL (t l : Int) : List UInt8 := if mOk t l then markL t.toNat l.toNat else []
set_option maxRecDepth 100000 in
set_option maxHeartbeats 2000000 in
theorem cWrite_no (t l : Int) (w : World) (hm : mOk t l = false) :
    Calls Try.prog 44 #[.agg #[.int .i64 t, .int .i64 l]] w fun e w' => e = .returned (.string ⟨#[]⟩) ∧ Below w.heap.size w w' := by
  have hr := fun W => cRight_any t l W
  rw [hm] at hr
  have HB := Lib.hid ((Below.refl w.heap.size w).alloc (Nat.le_refl _) (.cells #[.int .i64 t, .int .i64 l] 77))
  go_enter Try.func44, Try.ntmps44
  go_wp2_with (go_at_call 42; refine (hr _).mono ?_; rintro e w1 ⟨rfl, hb1⟩)
  go_ret
  exact ⟨rfl, HB.out.trans (hb1.mono (by simp))⟩
set_option maxRecDepth 100000 in
set_option maxHeartbeats 4000000 in
theorem cWrite_yes (t l : Nat) (w : World) (hm : mOk t l = true) :
    Calls Try.prog 44 #[.agg #[.int .i64 t, .int .i64 l]] w fun e w' => e = .returned (.string ⟨(markL t l).toArray⟩) ∧ Below w.heap.size w w' := by
  have hr := fun W => cRight_any t l W
  rw [hm] at hr
  have HB := Lib.hid ((Below.refl w.heap.size w).alloc (Nat.le_refl _) (.cells #[.int .i64 (t : Int), .int .i64 (l : Int)] 77))
  have hbx := Blk.new w 77 #[.int .i64 (t : Int), .int .i64 (l : Int)]
  have hbd : t ≤ 1099511627776 ∧ l ≤ 4194304 := by simp [mOk] at hm; omega
  clear hm
  go_enter Try.func44, Try.ntmps44
  go_wp2_with (go_at_call 42; refine (hr _).mono ?_; rintro e w1 ⟨rfl, hb1⟩)
  have hg := hbx.below hb1 (by simp)
  have hB1 := HB.out.trans (hb1.mono (by simp))
  have hsz1 : w.heap.size < w1.heap.size := by have := hb1.size; simp at this; omega
  have hW1 : Below w.heap.size w (w1.alloc (Obj.cells #[.pointer none, .slice none 0 0] 123)) := hB1.alloc hB1.size _
  have hg1 := hg.alloc (Obj.cells #[.pointer none, .slice none 0 0] 123)
  have hfr := bld_fresh w1
  generalize hw2 : w1.alloc (Obj.cells #[.pointer none, .slice none 0 0] 123) = w2 at *
  clear hw2 hb1 hg hB1 hbx hr HB
  generalize w1.heap.size = b at *
  clear w1
  generalize hgw : w.heap.size = g1 at *
  have HGW : Hid (∀ W, Below g1 w W → g1 ≤ W.heap.size) := Lib.hid fun W h => by have := h.size; omega
  have HGE := Lib.hid hgw
  clear hgw
  have hgb : g1 ≠ b := by omega
  have HNE := Lib.hid hgb; clear hgb
  have HC : Hid (∀ W, Blk W g1 77 #[.int .i64 (t : Int), .int .i64 (l : Int)] → W.cell? ⟨g1, 0, none⟩ = some (.int .i64 (t : Int)) ∧ W.cell? ⟨g1, 1, none⟩ = some (.int .i64 (l : Int))) := Lib.hid fun W h => ⟨by simpa using h.cell 0, by simpa using h.cell 1⟩
  have hput8 : (8 : Int) = ((8 : Nat) : Int) := rfl
  have hT : ∀ (W : World) (g : Nat), Bld b b (Lib.byteCells []) W → Blk W g 9 #[.string ⟨#[83, 87, 73, 78, 71, 76, 69, 49]⟩] → g ≠ b →
      Calls Try.prog 70 #[.pointer (some ⟨b, 0, none⟩), .slice (some ⟨g, 0, none⟩) 1 1] W fun e w' => e = .returned (.pointer (some ⟨b, 0, none⟩)) ∧ Bld b b (Lib.byteCells beginL) w' ∧ Below b W w' ∧ Lib.OthersKept 5 (some b) W w' :=
    fun W g h hg hgn => writerText_any b b g [] [⟨#[83, 87, 73, 78, 71, 76, 69, 49]⟩] W h (Nat.le_of_lt h.lt) hg hgn (by simp [catL]) (by simp)
  have hN : ∀ (W : World) (bs : List UInt8) (x : Nat), x < 2 ^ 64 → bs.length ≤ 1000 → Bld b b (Lib.byteCells bs) W →
      Calls Try.prog 71 #[.pointer (some ⟨b, 0, none⟩), .int .u64 x, .int .i64 8] W fun e w' => e = .returned (.pointer (some ⟨b, 0, none⟩)) ∧ Bld b b (Lib.byteCells (bs ++ putL x 8)) w' ∧ Below b W w' ∧ Lib.OthersKept 5 (some b) W w' :=
    fun W bs x hx hl h => writerNum_any b b bs x 8 W hx 8 (by omega) (by decide) h (Nat.le_of_lt h.lt) (by omega)
  have HT := Lib.hid (And.intro hT hN); clear hT hN hput8
  have g0 := hg1.cell 0
  have g1' := hg1.cell 1
  simp at g0 g1'
  have HG := Lib.hid hg1; clear hg1
  have HFR := Lib.hid hfr; clear hfr
  have HW1 := Lib.hid hW1; clear hW1
  have ht : t < 2 ^ 64 := by omega
  have hl : l < 2 ^ 64 := by omega
  have HX := Lib.hid (And.intro ht hl); clear ht hl
  have hwt : IntKind.u64.wrap (t : Int) = t := IntWalk.u64_in _ ⟨by omega, by omega⟩
  have hwl : IntKind.u64.wrap (l : Int) = l := IntWalk.u64_in _ ⟨by omega, by omega⟩
  have HA : Hid (∀ o, Blk (w2.alloc o).drew g1 77 #[.int .i64 (t : Int), .int .i64 (l : Int)]) := Lib.hid fun o => (HG.out.alloc o).drew
  have HBA : Hid (∀ o, Bld b b (Lib.byteCells []) (w2.alloc o).drew) := Lib.hid fun o => HFR.out.alloc o
  have HLT : Hid (∀ o, Below b w2 (w2.alloc o).drew) := Lib.hid fun o => ((Below.refl b w2).alloc (Nat.le_of_lt HFR.out.lt) o).drew
  have HNB : Hid (w2.heap.size ≠ b) := Lib.hid (Nat.ne_of_gt HFR.out.lt)
  have HSB : Hid (∀ c, Blk (w2.alloc (.cells c 9)).drew w2.heap.size 9 c) := Lib.hid fun c => (Blk.new w2 _ c).drew
  go_region_held3 (fun w' => w'.cell? ⟨g1, 0, none⟩ = some (.int .i64 (t : Int)) ∧ w'.cell? ⟨g1, 1, none⟩ = some (.int .i64 (l : Int)))
    (first | exact ⟨g0, g1'⟩ | exact HC.out _ (others_blk hox3 (others_blk hox2 (others_blk hox1 (HA.out _) HNE.out (by decide)) HNE.out (by decide)) HNE.out (by decide)) | exact HC.out _ (others_blk hox2 (others_blk hox1 (HA.out _) HNE.out (by decide)) HNE.out (by decide)) | exact HC.out _ (others_blk hox1 (HA.out _) HNE.out (by decide)) | exact HC.out _ (HA.out _))
    (first | (go_at_call 70; refine (HT.out.1 _ _ ?_ ?_ ?_).mono ?_; exact HBA.out _; exact HSB.out _; exact HNB.out; rintro e x1 ⟨rfl, hx1, hbx1, hox1⟩) | (go_at_call 71; have hh := hx1; clear hx1; (with_reducible refine (HT.out.2 _ _ _ HX.out.1 ?_ hh).mono ?_); decide; rintro e x2 ⟨rfl, hx2, hbx2, hox2⟩) | (go_at_call 71; have hh := hx2; clear hx2; (with_reducible refine (HT.out.2 _ _ _ HX.out.2 ?_ hh).mono ?_); simp [beginL, putL_length]; rintro e x3 ⟨rfl, hx3, hbx3, hox3⟩))
  have hbF := (((HLT.out _).trans hbx1).trans hbx2).trans hbx3
  have HF := Lib.hid (And.intro hx3 (HW1.out.trans (hbF.mono (Nat.le_of_lt hsz1)))); clear hx3 hbF hbx1 hbx2 hbx3 hox1 hox2 hox3 g0 g1'
  have hhd : beginL ++ putL t 8 ++ putL l 8 = headL t l := rfl
  rw [hhd] at HF
  clear hhd
  have hlen := headL_len t l
  have hlen2 := crcL_len t l
  have hcrc := ofS_lt (headL t l)
  have hY : ∀ (W : World) (bs : List UInt8), Bld b b (Lib.byteCells bs) W → Calls Try.prog 73 #[.pointer (some ⟨b, 0, none⟩)] W fun e w' => e = .returned (.string ⟨bs.toArray⟩) ∧ Bld b b (Lib.byteCells bs) w' ∧ Below b W w' ∧ Lib.OthersKept 5 (some b) W w' := fun W bs h => writerBytes_any b b bs W h (Nat.le_of_lt h.lt)
  have hS := fun W => sumOf_any W ⟨(headL t l).toArray⟩ (by show (headL t l).toArray.size ≤ _; simp [headL_len, maxLen])
  have hN4 : ∀ (W : World), Bld b b (Lib.byteCells (headL t l)) W →
      Calls Try.prog 71 #[.pointer (some ⟨b, 0, none⟩), .int .u64 (ofS (headL t l)), .int .i64 4] W fun e w' => e = .returned (.pointer (some ⟨b, 0, none⟩)) ∧ Bld b b (Lib.byteCells (crcL t l)) w' ∧ Below b W w' ∧ Lib.OthersKept 5 (some b) W w' :=
    fun W h => writerNum_any b b (headL t l) (ofS (headL t l)) 4 W (by omega) 4 (by omega) (by decide) h (Nat.le_of_lt h.lt) (by omega)
  have hP := fun W => cPad_any ⟨(crcL t l).toArray⟩ W (by show (crcL t l).toArray.size ≤ _; simp [crcL_len])
  have hpad : padL (crcL t l) = markL t l := by unfold padL markL; rw [hlen2]
  simp only [hpad] at hP
  have HY := Lib.hid (And.intro hY (And.intro hS (And.intro hN4 hP))); clear hY hS hN4 hP hpad
  have hcw : IntKind.u64.wrap (ofS (headL t l) : Int) = ofS (headL t l) := IntWalk.u64_in _ ⟨by omega, by omega⟩
  have HC2 := Lib.hid hcrc; clear hcrc
  go_wp2_with (go_at_call 73; refine (HY.out.1 _ _ HF.out.1).mono ?_; rintro e y1 ⟨rfl, hy1, hby1, _⟩)
  have HF1 := Lib.hid (And.intro hy1 (HF.out.2.trans (hby1.mono (Nat.le_of_lt hsz1)))); clear hy1 hby1
  go_wp2_with (go_at_call 72; refine (HY.out.2.1 _).mono ?_; rintro e y2 ⟨rfl, hy2⟩)
  refine (HY.out.2.2.1 _ (Bld.below (B' := 0) HF1.out.1 hy2)).mono ?_
  rintro e y3 ⟨rfl, hy3, hby3, _⟩
  have HF2 := Lib.hid (And.intro hy3 ((HF1.out.2.trans (hy2.mono (HGW.out _ HF1.out.2))).trans (hby3.mono (Nat.le_of_lt hsz1)))); clear hy3 hby3 hy2
  go_wp2_with (go_at_call 73; refine (HY.out.1 _ _ HF2.out.1).mono ?_; rintro e y4 ⟨rfl, hy4, hby4, _⟩)
  have HF3 := Lib.hid (And.intro hy4 (HF2.out.2.trans (hby4.mono (Nat.le_of_lt hsz1)))); clear hy4 hby4
  go_wp2_with (go_at_call 48; refine (HY.out.2.2.2 _).mono ?_; rintro e y5 ⟨rfl, hy5⟩)
  go_ret
  exact ⟨rfl, by rw [HGE.out]; exact HF3.out.2.trans (hy5.mono (HGW.out _ HF3.out.2))⟩
theorem cWrite_any (t l : Int) (w : World) :
    Calls Try.prog 44 #[.agg #[.int .i64 t, .int .i64 l]] w fun e w' => e = .returned (.string ⟨(writeL t l).toArray⟩) ∧ Below w.heap.size w w' := by
  cases hm : mOk t l with
  | false => rw [show writeL t l = [] by simp [writeL, hm]]; exact cWrite_no t l w hm
  | true =>
    have hb : 0 ≤ t ∧ 0 ≤ l := by simp [mOk] at hm; omega
    obtain ⟨t, rfl⟩ := Int.eq_ofNat_of_zero_le hb.1
    obtain ⟨l, rfl⟩ := Int.eq_ofNat_of_zero_le hb.2
    rw [show writeL (t : Int) (l : Int) = markL t l by simp [writeL, hm]]
    exact cWrite_yes t l w hm
end Go.Proofs.Ytpnkgldpmalklaa
