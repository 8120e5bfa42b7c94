/- The walk of CommitTurns. -/
import Derived.Test.YtpnkgldpmalklaaLift
import Derived.Test.YtpnkgldpmalklaaCommitRef
import Derived.Test.YtpnkgldpmalklaaCommitLives
import Derived.Test.YtpnkgldpmalklaaGrow
set_option linter.unusedVariables false
set_option linter.unusedSimpArgs false
namespace Go.Proofs.Ytpnkgldpmalklaa
open Go.ChangeShapes Go.WideShapes Go.ChangeAt Go.RowKit
open Go.ChangeMaps (open_string shut_string)
open Sw
theorem xor_bit (x j : Nat) (hx : x < 256) (hj : j < 8) : x ^^^ 2 ^ j < 256 ∧ x ^^^ 2 ^ j ≠ x := by
  have h2 : 2 ^ j < 2 ^ 8 := Nat.pow_lt_pow_right (by omega) hj
  refine ⟨Nat.xor_lt_two_pow (n := 8) hx h2, fun e => ?_⟩
  have h0 : x ^^^ (x ^^^ 2 ^ j) = x ^^^ x := by rw [e]
  rw [← Nat.xor_assoc, Nat.xor_self, Nat.zero_xor] at h0
  have : 0 < 2 ^ j := Nat.pow_pos (by omega)
  omega
set_option maxRecDepth 100000 in
theorem neq_mark_same (a b : Int) (W : World) : (binOp .neq 77 (.agg #[.int .i64 a, .int .i64 b]) (.agg #[.int .i64 a, .int .i64 b])).run Try.prog W = .ok (.bool false) W := by
  simp [go_sem, Try.underlying77, Try.underlying3]
set_option maxRecDepth 100000 in
set_option maxHeartbeats 4000000 in
theorem turns_walk (a b c : Nat) (w : World) (ha : a < 2 ^ 64) (hb : b < 2 ^ 64) (hc : c < 2 ^ 64) :
    Calls Try.prog 9 #[.int .u64 a, .int .u64 b, .int .u64 c] w fun e w' => e = .returned (.bool true) ∧ Below w.heap.size w w' := by
  obtain ⟨t, ht⟩ : ∃ t : Nat, t = a % 1000000 := ⟨_, rfl⟩
  obtain ⟨l, hl⟩ : ∃ l : Nat, l = 534 + b % 4000000 := ⟨_, rfl⟩
  obtain ⟨i, hi⟩ : ∃ i : Nat, i = c / 8 % 512 := ⟨_, rfl⟩
  obtain ⟨j, hj⟩ : ∃ j : Nat, j = c % 8 := ⟨_, rfl⟩
  have ht1 : (a : Int) % 1000000 = t := by omega
  have hl1 : 534 + (b : Int) % 4000000 = l := by omega
  have hi1 : (c : Int) / 8 % 512 = i := by omega
  have hj1 : (c : Int) % 8 = j := by omega
  have htb : t < 1000000 := by omega
  have hlb : 534 ≤ l ∧ l < 4000534 := by omega
  have hib : i < 512 := by omega
  have hjb : j < 8 := by omega
  clear ht hl hi hj
  have hm : mOk t l = true := by simp [mOk]; omega
  obtain ⟨u, hu⟩ : ∃ u : Nat, u = t + 1 := ⟨_, rfl⟩
  have hm2 : mOk (u : Int) l = true := by simp [mOk]; omega
  have hw1 := fun W => cWrite_yes t l W hm
  have hr1 := fun W => cRead_yes t l W hm
  have hw2 := fun W => cWrite_yes u l W hm2
  have heq := fun W => neq_mark_same t l W
  go_enter Try.func9, Try.ntmps9
  go_wp2_with fail
  obtain ⟨ml, hml⟩ : ∃ ml, ml = markL t l := ⟨_, rfl⟩
  obtain ⟨ml2, hml2⟩ : ∃ ml, ml = markL u l := ⟨_, rfl⟩
  have hlen : ml.length = 512 := by rw [hml]; exact markL_len t l
  have hne : ml2 ≠ ml := by
    intro e
    rw [hml, hml2] at e
    have := (markL_inj u l t l (by omega) (by omega) (by omega) (by omega) e).1
    omega
  have hno : ∀ y : UInt8, y ≠ ml[i] → ∀ t' l' : Nat, mOk t' l' = true → ml.set i y ≠ markL t' l' := by
    intro y hy t' l' hm' e
    have hb' : t' ≤ 1099511627776 ∧ l' ≤ 4194304 := by simp [mOk] at hm'; omega
    subst hml
    exact no_turn t l t' l' i y (by omega) (by omega) (by omega) (by omega) (by omega) hy e
  rw [← hml] at hw1 hr1
  rw [← hml2] at hw2
  clear hml hml2 hm hm2
  have hsz : ({ data := ml.toArray } : ByteArray).size = 512 := by show ml.toArray.size = 512; simp [hlen]
  have hbeq : ((({ data := ml2.toArray } : ByteArray)).toList == ({ data := ml.toArray } : ByteArray).toList) = false := by
    rw [beq_eq_false_iff_ne, ByteArray.toList_eq, ByteArray.toList_eq]; exact hne
  have hbeq2 : (ml2 == ml) = false := by rw [beq_eq_false_iff_ne]; exact hne
  have HC := Lib.hid (And.intro hw1 (And.intro hr1 (And.intro hw2 (And.intro hno hbeq)))); clear hw1 hr1 hw2 hno hne
  have hM0 := Blk.new w 77 #[.int .i64 (t : Int), .int .i64 (l : Int)]
  have hB0 : Below w.heap.size w (w.alloc (.cells #[.int .i64 (t : Int), .int .i64 (l : Int)] 77)) := (Below.refl _ w).alloc (Nat.le_refl _) _
  have hz0 : (w.alloc (.cells #[.int .i64 (t : Int), .int .i64 (l : Int)] 77)).heap.size = w.heap.size + 1 := by simp
  generalize w.alloc (.cells #[.int .i64 (t : Int), .int .i64 (l : Int)] 77) = w0 at *
  refine (HC.out.1 _).mono ?_
  rintro e w1 ⟨rfl, h1⟩
  have hM1 := hM0.below h1 hM0.lt
  have hB1 := hB0.trans (h1.mono (by omega))
  have hz1 := h1.size
  clear hM0 hB0 h1
  go_wp2_with fail
  refine (HC.out.2.1 _).mono ?_
  rintro e w2 ⟨rfl, h2⟩
  have hM2 := (hM1.below h2 hM1.lt).alloc (.cells #[.int .i64 (t : Int), .int .i64 (l : Int)] 77)
  have hX2 := Blk.new w2 77 #[.int .i64 (t : Int), .int .i64 (l : Int)]
  have hz2 := h2.size
  have hB2 : Below w.heap.size w (w2.alloc (.cells #[.int .i64 (t : Int), .int .i64 (l : Int)] 77)) := (hB1.trans (h2.mono (by omega))).alloc (by omega) _
  clear hM1 hB1 h2
  have c0 := hM2.cell 0
  have c1 := hM2.cell 1
  have d0 := hX2.cell 0
  have d1 := hX2.cell 1
  simp at c0 c1 d0 d1
  have HM := Lib.hid (And.intro hM2 hB2); clear hM2 hB2 hX2
  obtain ⟨cap, w4, hconv, hb4, hz4, hat4⟩ := run_bytes (P := Try.prog) (w2.alloc (.cells #[.int .i64 (t : Int), .int .i64 (l : Int)] 77)) 9 85 5 ⟨ml.toArray⟩ Try.underlying9 Try.underlying85 Try.underlying5
  rw [hsz] at hconv
  have hM4 := HM.out.1.below hb4 HM.out.1.lt
  have HB4 := Lib.hid (And.intro hM4 (And.intro (HM.out.2.trans (hb4.mono (by simp; omega))) hat4)); clear hM4 hb4 hat4
  simp at hz4
  have hil : i < ml.length := by omega
  obtain ⟨x, hx⟩ : ∃ x : UInt8, x = ml[i] := ⟨_, rfl⟩
  obtain ⟨y, hy⟩ : ∃ y : UInt8, y = UInt8.ofNat (x.toNat ^^^ 2 ^ j) := ⟨_, rfl⟩
  have hxl := x.toNat_lt
  have hxb := xor_bit x.toNat j (by omega) hjb
  have hyn : y.toNat = x.toNat ^^^ 2 ^ j := by rw [hy, UInt8.toNat_ofNat']; exact Nat.mod_eq_of_lt hxb.1
  have hyx : y ≠ ml[i] := by
    rw [← hx]
    intro e
    rw [e] at hyn
    exact hxb.2 hyn.symm
  obtain ⟨g0, f0⟩ := HB4.out.2.2 i hil
  have g0' : w4.cell? ⟨w2.heap.size + 1, i, none⟩ = some (.int .u8 (x.toNat : Int)) := by rw [hx]; simpa using g0
  have f0' : w4.frozen? ⟨w2.heap.size + 1, i, none⟩ = false := by simpa using f0
  have hp2 : (2 : Nat) ^ j < 256 := Nat.pow_lt_pow_right (a := 2) (n := 8) (by omega) hjb
  obtain ⟨M, hMj⟩ : ∃ M : Nat, M = 2 ^ j := ⟨_, rfl⟩
  rw [← hMj] at hp2 hyn
  have hsh : IntKind.u8.wrap ((2 : Int) ^ j) = (M : Int) := by
    have e1 : ((2 : Int) ^ j) = (M : Int) := by rw [hMj]; push_cast; rfl
    rw [e1]
    exact IntWalk.u8_in _ ⟨by omega, by omega⟩
  have hxo : bits .xor .u8 (x.toNat : Int) (M : Int) = (y.toNat : Int) := by rw [u8_xor_nat x.toNat M (by omega) hp2, hyn]
  have hj0 : (0 : Int) ≤ j := by omega
  have hj8 : (j : Int) < 8 := by omega
  clear g0 f0 hyn hMj hy hxb hxl
  have HX := Lib.hid (And.intro hx hyx); clear hx hyx
  have hat5 := HB4.out.2.2.put i y hil
  simp only [World.size_alloc] at hat5
  have hcv := BytesAt.conv (P := Try.prog) hat5 85 9 5 Try.underlying85 Try.underlying5 Try.underlying9 cap
  rw [List.length_set, hlen] at hcv
  have hgn : w.heap.size ≠ w2.heap.size + 1 := by omega
  have hM5 := HB4.out.1.far (p := ⟨w2.heap.size + 1, i, none⟩) hgn (.int .u8 (y.toNat : Int))
  have hB5 : Below w.heap.size w (w4.setCell ⟨w2.heap.size + 1, i, none⟩ (.int .u8 (y.toNat : Int))) := HB4.out.2.1.setCell (p := ⟨w2.heap.size + 1, i, none⟩) (by show w.heap.size ≤ w2.heap.size + 1; omega) _
  have hz5 : (w4.setCell ⟨w2.heap.size + 1, i, none⟩ (.int .u8 (y.toNat : Int))).heap.size = w4.heap.size := by simp [World.setCell]
  have hr5 := fun W => cRead_no ⟨(ml.set i y).toArray⟩ W (by show (ml.set i y).toArray.size ≤ _; simp [hlen, maxLen]) (fun t' l' hm' => HC.out.2.2.2.1 y HX.out.2 t' l' hm')
  have HR5 := Lib.hid hr5; clear hr5 hat5
  have HB5 := Lib.hid (And.intro hM5 (And.intro hB5 hz5)); clear hM5 hB5 hz5
  go_wp2_with fail
  refine (HR5.out _).mono ?_
  rintro e w6 ⟨rfl, h6⟩
  have hM6 := (HB5.out.1.below h6 HB5.out.1.lt).alloc (.cells #[.int .i64 0, .int .i64 0] 77)
  have hz6 := h6.size
  rw [HB5.out.2.2] at hz6
  have hB6 : Below w.heap.size w (w6.alloc (.cells #[.int .i64 0, .int .i64 0] 77)) := (HB5.out.2.1.trans (h6.mono (by rw [HB5.out.2.2]; omega))).alloc (by omega) _
  have p0 := hM6.cell 0
  have p1 := hM6.cell 1
  have fp := hM6.frozen 0
  simp at p0 p1
  have hM7 := hM6.put 0 (.int .i64 (u : Int))
  have hB7 := hB6.setCell (p := ⟨w.heap.size, 0, none⟩) (Nat.le_refl _) (.int .i64 (u : Int))
  have hinc : (t : Int) + 1 = (u : Int) := by omega
  have hu6 : (u : Int) ≤ 1000000 := by omega
  clear hu
  have HB7 := Lib.hid (And.intro hM7 hB7); clear hM6 hM7 hB6 hB7 h6
  go_wp2_with fail
  refine (HC.out.2.2.1 _).mono ?_
  rintro e w8 ⟨rfl, h8⟩
  have z8 := h8.size
  have hB8 := HB7.out.2.trans (h8.mono (by have := HB7.out.2.size; exact this))
  have HB8 := Lib.hid hB8; clear hB8 h8 z8
  go_wp2_with (go_at_call 46; refine (commit_lives _).mono ?_; rintro e w9 ⟨rfl, h9⟩)
  go_ret
  have hfin := HB8.out.trans (h9.mono HB8.out.size)
  exact ⟨rfl, hfin⟩
set_option maxRecDepth 100000 in
theorem commitTurns_walk : Walks 9 Try.f9 := by
  intro H enc W base args ds ps hval hA hlt hsz
  rw [Try.params9] at hA hval
  obtain ⟨v0, v1, v2, d0, d1, d2, p0, p1, p2, rfl, rfl, rfl, h0, h1, h2⟩ := trodAll_three hA
  obtain ⟨a, rfl, rfl, rfl, wa⟩ := open_int Try.underlying23 (hval 0 23 v0 rfl rfl) h0
  obtain ⟨b, rfl, rfl, rfl, wb⟩ := open_int Try.underlying23 (hval 1 23 v1 rfl rfl) h1
  obtain ⟨c, rfl, rfl, rfl, wc⟩ := open_int Try.underlying23 (hval 2 23 v2 rfl rfl) h2
  obtain ⟨a0, a1⟩ := bounds_u64 wa
  obtain ⟨b0, b1⟩ := bounds_u64 wb
  obtain ⟨c0, c1⟩ := bounds_u64 wc
  obtain ⟨a, rfl⟩ := Int.eq_ofNat_of_zero_le a0
  obtain ⟨b, rfl⟩ := Int.eq_ofNat_of_zero_le b0
  obtain ⟨c, rfl⟩ := Int.eq_ofNat_of_zero_le c0
  have ha : a < 2 ^ 64 := by omega
  have hb : b < 2 ^ 64 := by omega
  have hc : c < 2 ^ 64 := by omega
  exact turns_walk a b c W ha hb hc
end Go.Proofs.Ytpnkgldpmalklaa
