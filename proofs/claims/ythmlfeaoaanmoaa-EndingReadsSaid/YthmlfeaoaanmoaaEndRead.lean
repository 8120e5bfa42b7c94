/- The contract of ending.Read. -/
import Derived.Test.YthmlfeaoaanmoaaEnding
set_option linter.unusedVariables false
set_option linter.unusedSimpArgs false
namespace Go.Proofs.Ythmlfeaoaanmoaa
open Go.RowKit
open Sw
theorem rdAt_leE (s : ByteArray) (p : Nat) (bad : Bool) (n : Int) (hp : p ≤ s.size) : rdAt s p bad n ≤ s.size := by
  unfold rdAt
  split
  · rename_i h
    simp [canRead] at h
    omega
  · exact hp
theorem rdNum_ltE (s : ByteArray) (p : Nat) (bad : Bool) (n : Nat) (hn : n ≤ 4) : rdNum s p bad n < 2 ^ 32 := by
  unfold rdNum
  have hw : wd (n : Int) = n := by unfold wd; rw [if_neg (by omega)]
  rw [hw]
  have h := leN_lt (rdText s p bad n).data.toList
  have hs := rdText_size s p bad n
  have hl : (rdText s p bad n).data.toList.length = (rdText s p bad n).size := by rw [Array.length_toList]; rfl
  have h4 : (rdText s p bad n).size ≤ 4 := by
    cases hc : canRead s p bad n with
    | true => have h1 := hs.1 hc; omega
    | false => have := hs.2 hc; omega
  rw [hl] at h
  have : 256 ^ (rdText s p bad n).size ≤ 256 ^ 4 := Nat.pow_le_pow_right (by omega) h4
  omega
/-- where the reader is behind a number of w bytes -/
def rdS (t : ByteArray) (w : Nat) (pb : Nat × Bool) : Nat × Bool := (rdAt t pb.1 pb.2 (wd w), rdBad t pb.1 pb.2 (wd w))
def e0E (t : ByteArray) : Nat × Bool := (0, false)
def e1E (t : ByteArray) : Nat × Bool := rdS t 4 (e0E t)
def e2E (t : ByteArray) : Nat × Bool := rdS t 4 (e1E t)
def e3E (t : ByteArray) : Nat × Bool := rdS t 2 (e2E t)
def e4E (t : ByteArray) : Nat × Bool := rdS t 2 (e3E t)
def e5E (t : ByteArray) : Nat × Bool := rdS t 4 (e4E t)
def e6E (t : ByteArray) : Nat × Bool := rdS t 4 (e5E t)
def e7E (t : ByteArray) : Nat × Bool := rdS t 2 (e6E t)
def nmE (t : ByteArray) (w : Nat) (pb : Nat × Bool) : Nat := rdNum t pb.1 pb.2 w
theorem nmE_lt (t : ByteArray) (w : Nat) (pb : Nat × Bool) (hw : w ≤ 4) : nmE t w pb < 2 ^ 32 := rdNum_ltE t pb.1 pb.2 w hw
/-- is an end read? -/
def okE (t : ByteArray) : Bool :=
  nmE t 4 (e0E t) == 101010256 && nmE t 4 (e1E t) == 0 && !(e7E t).2 && nmE t 2 (e3E t) == nmE t 2 (e2E t) && rI (nmE t 2 (e2E t)) (nmE t 4 (e4E t)) (nmE t 4 (e5E t)) (nmE t 2 (e6E t)) && decide ((t.size : Int) - (e7E t).1 = nmE t 2 (e6E t))
structure StE (w W : World) (R0 g gp : Nat) (t : ByteArray) (pb : Nat × Bool) : Prop where
  rd : Rdr W g t pb.1 pb.2
  pt : Blk W gp 109 #[.pointer (some ⟨g, 0, none⟩)]
  rs : Blk W R0 84 #[.int .i64 0, .int .i64 0, .int .i64 0, .int .i64 0]
  be : Below R0 w W
  le : pb.1 ≤ t.size
theorem endNum_st {w W : World} {R0 g gp : Nat} {t : ByteArray} {pb : Nat × Bool} (h : StE w W R0 g gp t pb) (ht : t.size ≤ maxLen) (hg : R0 < g) (hgp : g < gp) (hR : R0 ≤ W.heap.size) (n : Nat) (hn : n ≤ 4) :
    Calls Try.prog 66 #[.int .i64 n, .pointer (some ⟨gp, 0, none⟩)] W fun e W' => e = .returned (.int .i64 (nmE t n pb)) ∧ StE w W' R0 g gp t (rdS t n pb) ∧ W.grownBy W' (some g) := by
  have hlt := nmE_lt t n pb hn
  refine (endNum_any W gp g t pb.1 pb.2 n ht h.le h.rd h.pt (nmE t n pb) (IntWalk.i64_in _ (by unfold nmE at hlt; omega))).mono ?_
  rintro e W' ⟨rfl, h1, h2⟩
  exact ⟨rfl, ⟨h1, h.pt.grown h2 (by simp; omega), h.rs.grown h2 (by simp; omega), below_grown h.be h2 (by omega) hR, rdAt_leE t pb.1 pb.2 _ h.le⟩, h2⟩
theorem StE.alloc {w W : World} {R0 g gp : Nat} {t : ByteArray} {pb : Nat × Bool} (h : StE w W R0 g gp t pb) (hR : R0 ≤ W.heap.size) (o : Obj) : StE w (W.alloc o) R0 g gp t pb := ⟨Blk.alloc h.rd o, h.pt.alloc o, h.rs.alloc o, h.be.alloc hR o, h.le⟩
theorem StE.far {w W : World} {R0 g gp : Nat} {t : ByteArray} {pb : Nat × Bool} (h : StE w W R0 g gp t pb) {X i : Nat} (h1 : g ≠ X) (h2 : gp ≠ X) (h3 : R0 < X) (v : Value) : StE w (W.setCell ⟨X, i, none⟩ v) R0 g gp t pb :=
  ⟨Blk.far h.rd (p := ⟨X, i, none⟩) h1 v, h.pt.far (p := ⟨X, i, none⟩) h2 v, h.rs.far (p := ⟨X, i, none⟩) (by show R0 ≠ X; omega) v, h.be.setCell (p := ⟨X, i, none⟩) (Nat.le_of_lt h3) v, h.le⟩
set_option maxRecDepth 100000 in
set_option maxHeartbeats 2000000 in
theorem endRead_out (s : ByteArray) (a : Int) (w : World) (hs : s.size ≤ maxLen) (ha : a < 0 ∨ (s.size : Int) < a) :
    Calls Try.prog 48 #[.string s, .int .i64 a] w fun e w' => e = .returned (.tuple #[.agg #[.int .i64 0, .int .i64 0, .int .i64 0, .int .i64 0], .bool false]) ∧ Below w.heap.size w w' := by
  have hM := Blk.new w 84 #[.int .i64 0, .int .i64 0, .int .i64 0, .int .i64 0]
  have hB : Below w.heap.size w (w.alloc (.cells #[.int .i64 0, .int .i64 0, .int .i64 0, .int .i64 0] 84)) := (Below.refl _ w).alloc (Nat.le_refl _) _
  have fin : ∀ (fn : Func) (tm : Array Value), fn.results = #[.cell 4 84, .tmp 5] → tm.getD 4 undef = .pointer (some ⟨w.heap.size, 0, none⟩) → (results fn tm).run Try.prog (w.alloc (.cells #[.int .i64 0, .int .i64 0, .int .i64 0, .int .i64 0] 84)) = .ok (.tuple #[.agg #[.int .i64 0, .int .i64 0, .int .i64 0, .int .i64 0], tm.getD 5 undef]) (w.alloc (.cells #[.int .i64 0, .int .i64 0, .int .i64 0, .int .i64 0] 84)) :=
    fun fn tm h1 h2 => res_blk_tmp h1 tm _ w.heap.size 84 _ _ h2 hM Try.underlying84 rfl (by kernel_rfl)
  have HF := Lib.hid (And.intro fin hB)
  clear fin hM hB
  by_cases h0 : a < 0
  · go_enter Try.func48, Try.ntmps48
    go_wp2_with fail
    exact bodyPost_ret (HF.out.1 _ _ rfl rfl) rfl ⟨rfl, HF.out.2⟩
  · have h1 : (s.size : Int) < a := by omega
    have h2 : 0 ≤ a := by omega
    clear ha
    go_enter Try.func48, Try.ntmps48
    go_wp2_with fail
    exact bodyPost_ret (HF.out.1 _ _ rfl rfl) rfl ⟨rfl, HF.out.2⟩
/-- what is read -/
def endV (t : ByteArray) : Value := if okE t then .tuple #[.agg #[.int .i64 (nmE t 2 (e2E t)), .int .i64 (nmE t 4 (e4E t)), .int .i64 (nmE t 4 (e5E t)), .int .i64 (nmE t 2 (e6E t))], .bool true] else .tuple #[.agg #[.int .i64 0, .int .i64 0, .int .i64 0, .int .i64 0], .bool false]
set_option maxRecDepth 100000 in
set_option maxHeartbeats 16000000 in
theorem endRead_in (s : ByteArray) (a : Nat) (w : World) (hs : s.size ≤ maxLen) (ha : a ≤ s.size) :
    Calls Try.prog 48 #[.string s, .int .i64 a] w fun e w' => e = .returned (endV (s.extract a s.size)) ∧ Below w.heap.size w w' := by
  have hts : (s.extract a s.size).size ≤ maxLen := by
    have : (s.extract a s.size).size ≤ s.size := by simp [ByteArray.size_extract]
    exact Nat.le_trans this hs
  obtain ⟨t, ht⟩ : ∃ t, s.extract a s.size = t := ⟨_, rfl⟩
  rw [ht] at hts ⊢
  have HTS := Lib.hid hts; clear hts
  unfold maxLen at hs
  have ha0 : (0 : Int) ≤ a := by omega
  have ha1 : (a : Int) ≤ s.size := by omega
  go_enter Try.func48, Try.ntmps48
  go_wp2_with fail
  clear ht
  refine (read_any _ t).mono ?_
  rintro e w1 ⟨rfl, rfl⟩
  obtain ⟨R, hR⟩ : ∃ R, R = w.heap.size := ⟨_, rfl⟩
  have hR0 := ((Blk.new w 84 #[.int .i64 0, .int .i64 0, .int .i64 0, .int .i64 0]).alloc (.cells #[.string t, .int .i64 0, .bool false] 128)).alloc (.cells #[.pointer (some ⟨w.heap.size + 1, 0, none⟩)] 109)
  have hr0 := (blk_snd w (.cells #[.int .i64 0, .int .i64 0, .int .i64 0, .int .i64 0] 84) #[.string t, .int .i64 0, .bool false] 128).alloc (.cells #[.pointer (some ⟨w.heap.size + 1, 0, none⟩)] 109)
  have hp0 := blk_trd w (.cells #[.int .i64 0, .int .i64 0, .int .i64 0, .int .i64 0] 84) (.cells #[.string t, .int .i64 0, .bool false] 128) #[.pointer (some ⟨w.heap.size + 1, 0, none⟩)] 109
  have hb0 : Below w.heap.size w (((w.alloc (.cells #[.int .i64 0, .int .i64 0, .int .i64 0, .int .i64 0] 84)).alloc (.cells #[.string t, .int .i64 0, .bool false] 128)).alloc (.cells #[.pointer (some ⟨w.heap.size + 1, 0, none⟩)] 109)) := (((Below.refl _ w).alloc (Nat.le_refl _) _).alloc (by simp) _).alloc (by simp; omega) _
  have hz0 : (((w.alloc (.cells #[.int .i64 0, .int .i64 0, .int .i64 0, .int .i64 0] 84)).alloc (.cells #[.string t, .int .i64 0, .bool false] 128)).alloc (.cells #[.pointer (some ⟨w.heap.size + 1, 0, none⟩)] 109)).heap.size = w.heap.size + 1 + 1 + 1 := by simp
  go_wp2_with fail
  generalize ((w.alloc (.cells #[.int .i64 0, .int .i64 0, .int .i64 0, .int .i64 0] 84)).alloc (.cells #[.string t, .int .i64 0, .bool false] 128)).alloc (.cells #[.pointer (some ⟨w.heap.size + 1, 0, none⟩)] 109) = w0 at *
  have HR := Lib.hid hR
  rw [← hR] at hR0 hr0 hp0 hb0 hz0 ⊢
  clear hR
  have h0 : StE w w0 R (R + 1) (R + 1 + 1) t (e0E t) := ⟨hr0, hp0, hR0, hb0, Nat.zero_le _⟩
  clear hr0 hp0 hR0 hb0
  refine (endNum_st h0 HTS.out (by omega) (by omega) (by omega) 4 (by omega)).mono ?_
  rintro e w2 ⟨rfl, h1, hg1⟩
  have hz1 := hg1.size
  clear h0 hg1
  replace h1 : StE w w2 R (R + 1) (R + 1 + 1) t (e1E t) := h1
  by_cases hv0 : nmE t 4 (e0E t) = 101010256
  · rw [hv0]
    have HS := Lib.hid h1; clear h1
    go_wp2_with fail
    refine (endNum_st HS.out HTS.out (by omega) (by omega) (by omega) 4 (by omega)).mono ?_
    rintro e w3 ⟨rfl, h2, hg2⟩
    have hz2 := hg2.size
    clear hg2 HS
    replace h2 : StE w w3 R (R + 1) (R + 1 + 1) t (e2E t) := h2
    by_cases hv1 : nmE t 4 (e1E t) = 0
    · rw [hv1]
      have HS := Lib.hid h2; clear h2
      have HV := Lib.hid (And.intro hv0 hv1); clear hv0 hv1
      go_wp2_with fail
      refine (endNum_st HS.out HTS.out (by omega) (by omega) (by omega) 2 (by omega)).mono ?_
      rintro e w4 ⟨rfl, h3, hg3⟩
      have hz3 := hg3.size
      clear hg3 HS
      replace h3 : StE w w4 R (R + 1) (R + 1 + 1) t (e3E t) := h3
      obtain ⟨v2, hv2⟩ : ∃ v, nmE t 2 (e2E t) = v := ⟨_, rfl⟩
      rw [hv2]
      have hX := Blk.new w4 84 #[.int .i64 (v2 : Int), .int .i64 0, .int .i64 0, .int .i64 0]
      have h3a := h3.alloc (by omega) (.cells #[.int .i64 (v2 : Int), .int .i64 0, .int .i64 0, .int .i64 0] 84)
      have hz3a : (w4.alloc (.cells #[.int .i64 (v2 : Int), .int .i64 0, .int .i64 0, .int .i64 0] 84)).heap.size = w4.heap.size + 1 := by simp
      have HV2 := Lib.hid hv2; clear hv2 h3
      have HS := Lib.hid (And.intro h3a hX); clear h3a hX
      obtain ⟨X, hXe⟩ : ∃ X, X = w4.heap.size := ⟨_, rfl⟩
      go_wp2_with fail
      rw [← hXe] at HS hz3a ⊢
      generalize w4.alloc (.cells #[.int .i64 (v2 : Int), .int .i64 0, .int .i64 0, .int .i64 0] 84) = w5 at *
      have hXR : R + 1 + 1 < X := by omega
      clear hXe
      refine (endNum_st HS.out.1 HTS.out (by omega) (by omega) (by omega) 2 (by omega)).mono ?_
      rintro e w6 ⟨rfl, h4, hg4⟩
      have hz4 := hg4.size
      have hX4 := HS.out.2.grown hg4 (by simp; omega)
      clear HS hg4
      replace h4 : StE w w6 R (R + 1) (R + 1 + 1) t (e4E t) := h4
      have HS := Lib.hid (And.intro h4 hX4); clear h4 hX4
      obtain ⟨v3, hv3⟩ : ∃ v, nmE t 2 (e3E t) = v := ⟨_, rfl⟩
      rw [hv3]
      have HV3 := Lib.hid hv3; clear hv3
      go_wp2_with fail
      refine (endNum_st HS.out.1 HTS.out (by omega) (by omega) (by omega) 4 (by omega)).mono ?_
      rintro e w7 ⟨rfl, h5, hg5⟩
      have hz5 := hg5.size
      have hX5 := HS.out.2.grown hg5 (by simp; omega)
      clear HS hg5
      replace h5 : StE w w7 R (R + 1) (R + 1 + 1) t (e5E t) := h5
      have HS := Lib.hid (And.intro h5 hX5); clear h5 hX5
      obtain ⟨v4, hv4⟩ : ∃ v, nmE t 4 (e4E t) = v := ⟨_, rfl⟩
      rw [hv4]
      have HV4 := Lib.hid hv4; clear hv4
      go_wp2_with fail
      refine (endNum_st HS.out.1 HTS.out (by omega) (by omega) (by omega) 4 (by omega)).mono ?_
      rintro e w8 ⟨rfl, h6, hg6⟩
      have hz6 := hg6.size
      have hX6 := HS.out.2.grown hg6 (by simp; omega)
      clear HS hg6
      replace h6 : StE w w8 R (R + 1) (R + 1 + 1) t (e6E t) := h6
      have HS := Lib.hid (And.intro h6 hX6); clear h6 hX6
      obtain ⟨v5, hv5⟩ : ∃ v, nmE t 4 (e5E t) = v := ⟨_, rfl⟩
      rw [hv5]
      have HV5 := Lib.hid hv5; clear hv5
      go_wp2_with fail
      refine (endNum_st HS.out.1 HTS.out (by omega) (by omega) (by omega) 2 (by omega)).mono ?_
      rintro e w9 ⟨rfl, h7, hg7⟩
      have hz7 := hg7.size
      have hX7 := HS.out.2.grown hg7 (by simp; omega)
      clear HS hg7
      replace h7 : StE w w9 R (R + 1) (R + 1 + 1) t (e7E t) := h7
      obtain ⟨v6, hv6⟩ : ∃ v, nmE t 2 (e6E t) = v := ⟨_, rfl⟩
      rw [hv6]
      have HV6 := Lib.hid hv6; clear hv6
      have x0 := hX7.cell 0
      have x1 := hX7.cell 1
      have x2 := hX7.cell 2
      have x3 := hX7.cell 3
      have y1 := hX7.frozen 1
      have y2 := hX7.frozen 2
      have y3 := hX7.frozen 3
      simp at x0 x1 x2 x3
      have hX8 := ((hX7.put 1 (.int .i64 (v4 : Int))).put 2 (.int .i64 (v5 : Int))).put 3 (.int .i64 (v6 : Int))
      have h8 := ((h7.far (X := X) (i := 1) (by omega) (by omega) (by omega) (.int .i64 (v4 : Int))).far (X := X) (i := 2) (by omega) (by omega) (by omega) (.int .i64 (v5 : Int))).far (X := X) (i := 3) (by omega) (by omega) (by omega) (.int .i64 (v6 : Int))
      have hz8 : (((w9.setCell ⟨X, 1, none⟩ (.int .i64 (v4 : Int))).setCell ⟨X, 2, none⟩ (.int .i64 (v5 : Int))).setCell ⟨X, 3, none⟩ (.int .i64 (v6 : Int))).heap.size = w9.heap.size := by simp [World.setCell]
      have HS := Lib.hid (And.intro h8 hX8); clear h8 hX8 h7 hX7
      go_wp2_with fail
      generalize ((w9.setCell ⟨X, 1, none⟩ (.int .i64 (v4 : Int))).setCell ⟨X, 2, none⟩ (.int .i64 (v5 : Int))).setCell ⟨X, 3, none⟩ (.int .i64 (v6 : Int)) = w10 at *
      clear x0 x1 x2 x3 y1 y2 y3
      have k0 : ∀ n : Held (Aft w10), (HeldW n).cell? ⟨R + 1 + 1, 0, none⟩ = some (.pointer (some ⟨R + 1, 0, none⟩)) := fun n => (Aft.cell n HS.out.1.pt.lt).trans (by simpa using HS.out.1.pt.cell 0)
      have k1 : ∀ n : Held (Aft w10), (HeldW n).cell? ⟨X, 0, none⟩ = some (.int .i64 (v2 : Int)) := fun n => (Aft.cell n HS.out.2.lt).trans (by simpa using HS.out.2.cell 0)
      have k2 : ∀ n : Held (Aft w10), (HeldW n).cell? ⟨X, 1, none⟩ = some (.int .i64 (v4 : Int)) := fun n => (Aft.cell n HS.out.2.lt).trans (by simpa using HS.out.2.cell 1)
      have k3 : ∀ n : Held (Aft w10), (HeldW n).cell? ⟨X, 2, none⟩ = some (.int .i64 (v5 : Int)) := fun n => (Aft.cell n HS.out.2.lt).trans (by simpa using HS.out.2.cell 2)
      have k4 : ∀ n : Held (Aft w10), (HeldW n).cell? ⟨X, 3, none⟩ = some (.int .i64 (v6 : Int)) := fun n => (Aft.cell n HS.out.2.lt).trans (by simpa using HS.out.2.cell 3)
      haveI := Aft.some w10
      have hc1 := fun n : Held (Aft w10) => fine_any (HeldW n) (R + 1) t (e7E t).1 (e7E t).2 (Blk.below HS.out.1.rd (HeldW_spec n) (Blk.lt HS.out.1.rd))
      have hc2 := fun n : Held (Aft w10) => endRight_any v2 v4 v5 v6 (HeldW n)
      have hc3 := fun n : Held (Aft w10) => left_any (HeldW n) (R + 1) t (e7E t).1 (e7E t).2 HTS.out HS.out.1.le (Blk.below HS.out.1.rd (HeldW_spec n) (Blk.lt HS.out.1.rd))
      have hok : okE t = (!(e7E t).2 && v3 == v2 && rI v2 v4 v5 v6 && decide ((t.size : Int) - (e7E t).1 = v6)) := by
        unfold okE
        rw [HV.out.1, HV.out.2, HV2.out, HV3.out, HV4.out, HV5.out, HV6.out]; simp
      have hvv : endV t = if okE t then .tuple #[.agg #[.int .i64 v2, .int .i64 v4, .int .i64 v5, .int .i64 v6], .bool true] else .tuple #[.agg #[.int .i64 0, .int .i64 0, .int .i64 0, .int .i64 0], .bool false] := by
        unfold endV; rw [HV2.out, HV4.out, HV5.out, HV6.out]
      have HVV := Lib.hid hvv; clear hvv
      have HOK := Lib.hid hok; clear hok
      generalize (e7E t).1 = p7 at *
      generalize (e7E t).2 = b7 at *
      cases b7 with
      | true =>
        have hno : ¬ okE t = true := by rw [HOK.out]; simp
        have HNO := Lib.hid hno; clear hno
        have HC := Lib.hid (And.intro hc1 (And.intro hc2 hc3)); clear hc1 hc2 hc3
        refine wp_region_class (Aft w10) (by kernel_rfl) (by kernel_rfl) (Aft.start w10) ?_
        repeat (go_big_quiet_step (first | with_reducible exact held_same (HC.out.1 _) | with_reducible exact held_below Aft.keep (HC.out.2.1 _) | with_reducible exact held_drew Aft.drews (HC.out.2.2 _)))
        refine wpQuiet_nil ?_
        rintro _ ⟨nn, rfl⟩
        have HW : Hid (Below w10.heap.size w10 (HeldW nn)) := Lib.hid (HeldW_spec nn)
        generalize HeldW nn = w11 at *
        clear k0 k1 k2 k3 k4 nn
        have hrs := HS.out.1.rs.below HW.out HS.out.1.rs.lt
        have hX := HS.out.2.below HW.out HS.out.2.lt
        have hbe := HS.out.1.be.trans (HW.out.mono (by omega))
        have m0 := hrs.cell 0
        have m1 := hrs.cell 1
        have m2 := hrs.cell 2
        have m3 := hrs.cell 3
        have f0 := hrs.frozen 0
        have f1 := hrs.frozen 1
        have f2 := hrs.frozen 2
        have f3 := hrs.frozen 3
        have x0 := hX.cell 0
        have x1 := hX.cell 1
        have x2 := hX.cell 2
        have x3 := hX.cell 3
        simp at m0 m1 m2 m3 x0 x1 x2 x3
        have HQ := Lib.hid (And.intro hrs hbe); clear hrs hX hbe
        go_wp2_with fail
        refine bodyPost_ret (res_blk_tmp rfl _ _ R 84 #[.int .i64 0, .int .i64 0, .int .i64 0, .int .i64 0] _ rfl ((((HQ.out.1.put 0 (.int .i64 0)).put 1 (.int .i64 0)).put 2 (.int .i64 0)).put 3 (.int .i64 0)) Try.underlying84 rfl (by kernel_rfl)) rfl ⟨by rw [endV, if_neg HNO.out]; rfl, ?_⟩
        rw [← HR.out]
        exact (((HQ.out.2.setCell (p := ⟨R, 0, none⟩) (Nat.le_refl _) _).setCell (p := ⟨R, 1, none⟩) (Nat.le_refl _) _).setCell (p := ⟨R, 2, none⟩) (Nat.le_refl _) _).setCell (p := ⟨R, 3, none⟩) (Nat.le_refl _) _
      | false =>
        by_cases h32 : v3 = v2
        · have q1 : ((v3 : Int) == (v2 : Int)) = true := by rw [beq_iff_eq]; omega
          have q2 : ((v3 : Int) != (v2 : Int)) = false := by rw [bne, q1]; rfl
          cases hri : rI v2 v4 v5 v6 with
          | false =>
            rw [hri] at hc2
            have hno : ¬ okE t = true := by rw [HOK.out, hri]; simp
            have HNO := Lib.hid hno; clear hno hri
            have HC := Lib.hid (And.intro hc1 (And.intro hc2 hc3)); clear hc1 hc2 hc3
            refine wp_region_class (Aft w10) (by kernel_rfl) (by kernel_rfl) (Aft.start w10) ?_
            repeat (go_big_quiet_step (first | with_reducible exact held_same (HC.out.1 _) | with_reducible exact held_below Aft.keep (HC.out.2.1 _) | with_reducible exact held_drew Aft.drews (HC.out.2.2 _)))
            refine wpQuiet_nil ?_
            rintro _ ⟨nn, rfl⟩
            have HW : Hid (Below w10.heap.size w10 (HeldW nn)) := Lib.hid (HeldW_spec nn)
            generalize HeldW nn = w11 at *
            clear k0 k1 k2 k3 k4 nn
            have hrs := HS.out.1.rs.below HW.out HS.out.1.rs.lt
            have hX := HS.out.2.below HW.out HS.out.2.lt
            have hbe := HS.out.1.be.trans (HW.out.mono (by omega))
            have m0 := hrs.cell 0
            have m1 := hrs.cell 1
            have m2 := hrs.cell 2
            have m3 := hrs.cell 3
            have f0 := hrs.frozen 0
            have f1 := hrs.frozen 1
            have f2 := hrs.frozen 2
            have f3 := hrs.frozen 3
            have x0 := hX.cell 0
            have x1 := hX.cell 1
            have x2 := hX.cell 2
            have x3 := hX.cell 3
            simp at m0 m1 m2 m3 x0 x1 x2 x3
            have HQ := Lib.hid (And.intro hrs hbe); clear hrs hX hbe
            go_wp2_with fail
            refine bodyPost_ret (res_blk_tmp rfl _ _ R 84 #[.int .i64 0, .int .i64 0, .int .i64 0, .int .i64 0] _ rfl ((((HQ.out.1.put 0 (.int .i64 0)).put 1 (.int .i64 0)).put 2 (.int .i64 0)).put 3 (.int .i64 0)) Try.underlying84 rfl (by kernel_rfl)) rfl ⟨by rw [endV, if_neg HNO.out]; rfl, ?_⟩
            rw [← HR.out]
            exact (((HQ.out.2.setCell (p := ⟨R, 0, none⟩) (Nat.le_refl _) _).setCell (p := ⟨R, 1, none⟩) (Nat.le_refl _) _).setCell (p := ⟨R, 2, none⟩) (Nat.le_refl _) _).setCell (p := ⟨R, 3, none⟩) (Nat.le_refl _) _
          | true =>
            rw [hri] at hc2
            by_cases hlf : (t.size : Int) - p7 = v6
            · have hyes : okE t = true := by rw [HOK.out, hri, decide_eq_true hlf, h32]; simp
              have HYES := Lib.hid hyes; clear hyes hri
              rw [hlf] at hc3
              have HC := Lib.hid (And.intro hc1 (And.intro hc2 hc3)); clear hc1 hc2 hc3 hlf
              refine wp_region_class (Aft w10) (by kernel_rfl) (by kernel_rfl) (Aft.start w10) ?_
              repeat (go_big_quiet_step (first | with_reducible exact held_same (HC.out.1 _) | with_reducible exact held_below Aft.keep (HC.out.2.1 _) | with_reducible exact held_drew Aft.drews (HC.out.2.2 _)))
              refine wpQuiet_nil ?_
              rintro _ ⟨nn, rfl⟩
              have HW : Hid (Below w10.heap.size w10 (HeldW nn)) := Lib.hid (HeldW_spec nn)
              generalize HeldW nn = w11 at *
              clear k0 k1 k2 k3 k4 nn
              have hrs := HS.out.1.rs.below HW.out HS.out.1.rs.lt
              have hX := HS.out.2.below HW.out HS.out.2.lt
              have hbe := HS.out.1.be.trans (HW.out.mono (by omega))
              have m0 := hrs.cell 0
              have m1 := hrs.cell 1
              have m2 := hrs.cell 2
              have m3 := hrs.cell 3
              have f0 := hrs.frozen 0
              have f1 := hrs.frozen 1
              have f2 := hrs.frozen 2
              have f3 := hrs.frozen 3
              have x0 := hX.cell 0
              have x1 := hX.cell 1
              have x2 := hX.cell 2
              have x3 := hX.cell 3
              simp at m0 m1 m2 m3 x0 x1 x2 x3
              have HQ := Lib.hid (And.intro hrs hbe); clear hrs hX hbe
              go_wp2_with fail
              refine bodyPost_ret (res_blk_tmp rfl _ _ R 84 #[.int .i64 v2, .int .i64 v4, .int .i64 v5, .int .i64 v6] _ rfl ((((HQ.out.1.put 0 (.int .i64 v2)).put 1 (.int .i64 v4)).put 2 (.int .i64 v5)).put 3 (.int .i64 v6)) Try.underlying84 rfl (by kernel_rfl)) rfl ⟨by rw [HVV.out, if_pos HYES.out]; rfl, ?_⟩
              rw [← HR.out]
              exact (((HQ.out.2.setCell (p := ⟨R, 0, none⟩) (Nat.le_refl _) _).setCell (p := ⟨R, 1, none⟩) (Nat.le_refl _) _).setCell (p := ⟨R, 2, none⟩) (Nat.le_refl _) _).setCell (p := ⟨R, 3, none⟩) (Nat.le_refl _) _
            · have hno : ¬ okE t = true := by rw [HOK.out, decide_eq_false hlf]; simp
              have HNO := Lib.hid hno; clear hno hri
              have q3 : (((t.size : Int) - p7) == (v6 : Int)) = false := by rw [beq_eq_false_iff_ne]; exact hlf
              have q4 : (((t.size : Int) - p7) != (v6 : Int)) = true := by rw [bne, q3]; rfl
              have HC := Lib.hid (And.intro hc1 (And.intro hc2 hc3)); clear hc1 hc2 hc3 hlf
              refine wp_region_class (Aft w10) (by kernel_rfl) (by kernel_rfl) (Aft.start w10) ?_
              repeat (go_big_quiet_step (first | with_reducible exact held_same (HC.out.1 _) | with_reducible exact held_below Aft.keep (HC.out.2.1 _) | with_reducible exact held_drew Aft.drews (HC.out.2.2 _)))
              refine wpQuiet_nil ?_
              rintro _ ⟨nn, rfl⟩
              have HW : Hid (Below w10.heap.size w10 (HeldW nn)) := Lib.hid (HeldW_spec nn)
              generalize HeldW nn = w11 at *
              clear k0 k1 k2 k3 k4 nn
              have hrs := HS.out.1.rs.below HW.out HS.out.1.rs.lt
              have hX := HS.out.2.below HW.out HS.out.2.lt
              have hbe := HS.out.1.be.trans (HW.out.mono (by omega))
              have m0 := hrs.cell 0
              have m1 := hrs.cell 1
              have m2 := hrs.cell 2
              have m3 := hrs.cell 3
              have f0 := hrs.frozen 0
              have f1 := hrs.frozen 1
              have f2 := hrs.frozen 2
              have f3 := hrs.frozen 3
              have x0 := hX.cell 0
              have x1 := hX.cell 1
              have x2 := hX.cell 2
              have x3 := hX.cell 3
              simp at m0 m1 m2 m3 x0 x1 x2 x3
              have HQ := Lib.hid (And.intro hrs hbe); clear hrs hX hbe
              go_wp2_with fail
              refine bodyPost_ret (res_blk_tmp rfl _ _ R 84 #[.int .i64 0, .int .i64 0, .int .i64 0, .int .i64 0] _ rfl ((((HQ.out.1.put 0 (.int .i64 0)).put 1 (.int .i64 0)).put 2 (.int .i64 0)).put 3 (.int .i64 0)) Try.underlying84 rfl (by kernel_rfl)) rfl ⟨by rw [endV, if_neg HNO.out]; rfl, ?_⟩
              rw [← HR.out]
              exact (((HQ.out.2.setCell (p := ⟨R, 0, none⟩) (Nat.le_refl _) _).setCell (p := ⟨R, 1, none⟩) (Nat.le_refl _) _).setCell (p := ⟨R, 2, none⟩) (Nat.le_refl _) _).setCell (p := ⟨R, 3, none⟩) (Nat.le_refl _) _
        · have hno : ¬ okE t = true := by rw [HOK.out, show (v3 == v2) = false from beq_eq_false_iff_ne.2 h32]; simp
          have HNO := Lib.hid hno; clear hno
          have q1 : ((v3 : Int) == (v2 : Int)) = false := by rw [beq_eq_false_iff_ne]; omega
          have q2 : ((v3 : Int) != (v2 : Int)) = true := by rw [bne, q1]; rfl
          have HC := Lib.hid (And.intro hc1 (And.intro hc2 hc3)); clear hc1 hc2 hc3
          refine wp_region_class (Aft w10) (by kernel_rfl) (by kernel_rfl) (Aft.start w10) ?_
          repeat (go_big_quiet_step (first | with_reducible exact held_same (HC.out.1 _) | with_reducible exact held_below Aft.keep (HC.out.2.1 _) | with_reducible exact held_drew Aft.drews (HC.out.2.2 _)))
          refine wpQuiet_nil ?_
          rintro _ ⟨nn, rfl⟩
          have HW : Hid (Below w10.heap.size w10 (HeldW nn)) := Lib.hid (HeldW_spec nn)
          generalize HeldW nn = w11 at *
          clear k0 k1 k2 k3 k4 nn
          have hrs := HS.out.1.rs.below HW.out HS.out.1.rs.lt
          have hX := HS.out.2.below HW.out HS.out.2.lt
          have hbe := HS.out.1.be.trans (HW.out.mono (by omega))
          have m0 := hrs.cell 0
          have m1 := hrs.cell 1
          have m2 := hrs.cell 2
          have m3 := hrs.cell 3
          have f0 := hrs.frozen 0
          have f1 := hrs.frozen 1
          have f2 := hrs.frozen 2
          have f3 := hrs.frozen 3
          have x0 := hX.cell 0
          have x1 := hX.cell 1
          have x2 := hX.cell 2
          have x3 := hX.cell 3
          simp at m0 m1 m2 m3 x0 x1 x2 x3
          have HQ := Lib.hid (And.intro hrs hbe); clear hrs hX hbe
          go_wp2_with fail
          refine bodyPost_ret (res_blk_tmp rfl _ _ R 84 #[.int .i64 0, .int .i64 0, .int .i64 0, .int .i64 0] _ rfl ((((HQ.out.1.put 0 (.int .i64 0)).put 1 (.int .i64 0)).put 2 (.int .i64 0)).put 3 (.int .i64 0)) Try.underlying84 rfl (by kernel_rfl)) rfl ⟨by rw [endV, if_neg HNO.out]; rfl, ?_⟩
          rw [← HR.out]
          exact (((HQ.out.2.setCell (p := ⟨R, 0, none⟩) (Nat.le_refl _) _).setCell (p := ⟨R, 1, none⟩) (Nat.le_refl _) _).setCell (p := ⟨R, 2, none⟩) (Nat.le_refl _) _).setCell (p := ⟨R, 3, none⟩) (Nat.le_refl _) _
    · have hno : ¬ okE t = true := by unfold okE; rw [show (nmE t 4 (e1E t) == 0) = false from beq_eq_false_iff_ne.2 hv1]; simp
      have HNO := Lib.hid hno; clear hno hv0
      have HS := Lib.hid h2; clear h2
      have q1 : ((nmE t 4 (e1E t) : Int) == 0) = false := by rw [beq_eq_false_iff_ne]; omega
      have q2 : ((nmE t 4 (e1E t) : Int) != 0) = true := by rw [bne, q1]; rfl
      clear hv1
      have m0 := HS.out.rs.cell 0
      have m1 := HS.out.rs.cell 1
      have m2 := HS.out.rs.cell 2
      have m3 := HS.out.rs.cell 3
      have f0 := HS.out.rs.frozen 0
      have f1 := HS.out.rs.frozen 1
      have f2 := HS.out.rs.frozen 2
      have f3 := HS.out.rs.frozen 3
      simp at m0 m1 m2 m3
      go_wp2_with fail
      refine bodyPost_ret (res_blk_tmp rfl _ _ R 84 #[.int .i64 0, .int .i64 0, .int .i64 0, .int .i64 0] _ rfl ((((HS.out.rs.put 0 (.int .i64 0)).put 1 (.int .i64 0)).put 2 (.int .i64 0)).put 3 (.int .i64 0)) Try.underlying84 rfl (by kernel_rfl)) rfl ⟨by rw [endV, if_neg HNO.out]; rfl, ?_⟩
      rw [← HR.out]
      exact (((HS.out.be.setCell (p := ⟨R, 0, none⟩) (Nat.le_refl _) _).setCell (p := ⟨R, 1, none⟩) (Nat.le_refl _) _).setCell (p := ⟨R, 2, none⟩) (Nat.le_refl _) _).setCell (p := ⟨R, 3, none⟩) (Nat.le_refl _) _
  · have hno : ¬ okE t = true := by unfold okE; rw [show (nmE t 4 (e0E t) == 101010256) = false from beq_eq_false_iff_ne.2 hv0]; simp
    have HNO := Lib.hid hno; clear hno
    have HS := Lib.hid h1; clear h1
    have q1 : ((nmE t 4 (e0E t) : Int) == 101010256) = false := by rw [beq_eq_false_iff_ne]; omega
    have q2 : ((nmE t 4 (e0E t) : Int) != 101010256) = true := by rw [bne, q1]; rfl
    clear hv0
    have m0 := HS.out.rs.cell 0
    have m1 := HS.out.rs.cell 1
    have m2 := HS.out.rs.cell 2
    have m3 := HS.out.rs.cell 3
    have f0 := HS.out.rs.frozen 0
    have f1 := HS.out.rs.frozen 1
    have f2 := HS.out.rs.frozen 2
    have f3 := HS.out.rs.frozen 3
    simp at m0 m1 m2 m3
    go_wp2_with fail
    refine bodyPost_ret (res_blk_tmp rfl _ _ R 84 #[.int .i64 0, .int .i64 0, .int .i64 0, .int .i64 0] _ rfl ((((HS.out.rs.put 0 (.int .i64 0)).put 1 (.int .i64 0)).put 2 (.int .i64 0)).put 3 (.int .i64 0)) Try.underlying84 rfl (by kernel_rfl)) rfl ⟨by rw [endV, if_neg HNO.out]; rfl, ?_⟩
    rw [← HR.out]
    exact (((HS.out.be.setCell (p := ⟨R, 0, none⟩) (Nat.le_refl _) _).setCell (p := ⟨R, 1, none⟩) (Nat.le_refl _) _).setCell (p := ⟨R, 2, none⟩) (Nat.le_refl _) _).setCell (p := ⟨R, 3, none⟩) (Nat.le_refl _) _
end Go.Proofs.Ythmlfeaoaanmoaa
