/- The walk of LzExpands. -/
import Derived.Test.YthmlfeaoaanmoaaLift
import Derived.Test.YthmlfeaoaanmoaaLzLives
import Derived.Test.YthmlfeaoaanmoaaLzRefExp
import Derived.Test.YthmlfeaoaanmoaaLzCount
set_option linter.unusedVariables false
set_option linter.unusedSimpArgs false
namespace Sw
/-- what Expand answers, as two values -/
def expR (l : List Tk) : ByteArray × Bool := match expT l [] with
  | none => (⟨#[]⟩, false)
  | some out => (⟨out.toArray⟩, true)
theorem expR_ok (l : List Tk) : (expT l []).isSome = (expR l).2 := by
  unfold expR
  cases expT l [] <;> rfl
end Sw
namespace Go.Proofs.Ythmlfeaoaanmoaa
open Go Go.ChangeShapes Go.WideShapes Go.ChangeAt Go.RowKit
open Sw
theorem exp_post {l : List Tk} {w : World} {e : Ending} {w' : World} (h : ExpPost l w e w') : e = .returned (.tuple #[.string (expR l).1, .bool (expR l).2]) ∧ Below w.heap.size w w' := by
  obtain ⟨h1, h2⟩ := h
  refine ⟨?_, h1⟩
  unfold expR
  cases hx : expT l [] with
  | none => rw [hx] at h2; exact h2
  | some out => rw [hx] at h2; exact h2
set_option maxRecDepth 100000 in
set_option maxHeartbeats 8000000 in
theorem lzExpands_main (w : World) (A : Option Addr) (n c : Nat) (l : List Tk) (hl : l.length = n) (hnc : n ≤ c) (hc : c ≤ maxLen) (hsl : SlOf w 3 tkC A l) (hin : ∀ t ∈ l, TkIn t) :
    Calls Try.prog 13 #[.slice A n c] w fun e w' => e = .returned (.bool true) ∧ Below w.heap.size w w' := by
  have hmm := hc
  unfold maxLen at hmm
  obtain ⟨k, hk, hmin⟩ : ∃ k : Nat, k ≤ n ∧ min (n : Int) 101 = k := ⟨min n 101, by omega, by omega⟩
  have hk1 : k ≤ 101 := by omega
  have hE1 := fun W (hb : Below w.heap.size w W) => (expand_any W A n c l hl (by omega) (hsl.below hb (Nat.le_refl _)) hin).mono fun e w' h => exp_post h
  have hE2 := fun W (hb : Below w.heap.size w W) => (refExpand_any W A n c l hl (by omega) (hsl.below hb (Nat.le_refl _)) hin).mono fun e w' h => exp_post h
  have hC := fun W (hb : Below w.heap.size w W) => lzCount_any W A n c l hl (by omega) (hsl.below hb (Nat.le_refl _))
  have hR := fun W (hb : Below w.heap.size w W) => right_any W A n c l hl (by omega) (hsl.below hb (Nat.le_refl _))
  rw [expR_ok] at hR
  rw [hl] at hC
  have hlit := litN_le l
  rw [hl] at hlit
  have HS := Lib.hid hsl; clear hsl
  have HL := Lib.hid hl; clear hl
  generalize (expR l).1 = S at *
  generalize (expR l).2 = ok at *
  have HE1 := Lib.hid hE1; clear hE1
  have HE2 := Lib.hid hE2; clear hE2
  have HC := Lib.hid hC; clear hC
  have HR := Lib.hid hR; clear hR
  go_enter Try.func13, Try.ntmps13
  go_wp2_with fail
  go_loopw [3, 21] (fun q t wr => ∃ (i : Nat) (x : Int), i ≤ k ∧ t = .int .i64 i ∧ q = .int .i64 x ∧ 0 ≤ x ∧ x ≤ 300 * i ∧ Below w.heap.size w wr) (fun _ t _ => k - (intOf t).toNat)
  case atStart => exact ⟨0, 0, Nat.zero_le _, rfl, rfl, by omega, by omega, Below.refl _ _⟩
  case round =>
    obtain ⟨i, q, hi, rfl, rfl, hq0, hq1, hbw⟩ := hrel
    by_cases hlt : i < k
    · have hil : i < l.length := by have := HL.out; omega
      obtain ⟨b, off, rfl, hbb, hcs⟩ := HS.out (by omega)
      have h0 := hcs i hil 0 (by omega)
      have h1 := hcs i hil 1 (by omega)
      have h2 := hcs i hil 2 (by omega)
      rw [← hbw.cell (p := ⟨b, _, none⟩) hbb] at h0 h1 h2
      simp [tkC] at h0 h1 h2
      have hnb : b ≠ wr.heap.size := by have := hbw.size; omega
      clear hcs
      generalize l[i].byte = x at *
      generalize l[i].long = y at *
      generalize l[i].back = z at *
      obtain ⟨m, hm0, hm1, hmx⟩ : ∃ m : Int, 0 ≤ m ∧ m ≤ 300 ∧ max 0 (min y 300) = m := ⟨max 0 (min y 300), by omega, by omega, rfl⟩
      have hq2 : q ≤ 30300 := by omega
      go_wp2_with fail
      go_roundw
      case rel => exact ⟨i + 1, q + m, by omega, by go_num, rfl, by omega, by omega, hbw.alloc hbw.size _⟩
      case measure => simp [intOf]; omega
    · obtain rfl : i = k := by omega
      clear hlt hq1
      by_cases hn : 100 < n
      · have hnI : (100 : Int) < n := by omega
        clear hn
        go_wp2_with fail
        refine (lz_lives _).mono ?_
        rintro e w7 ⟨rfl, hb7⟩
        go_wp2_with fail
        go_ret
        exact ⟨rfl, hbw.trans (hb7.mono hbw.size)⟩
      by_cases hq : 5000 < q
      · have hnI : ¬ (100 : Int) < n := by omega
        clear hn
        go_wp2_with fail
        refine (lz_lives _).mono ?_
        rintro e w7 ⟨rfl, hb7⟩
        go_wp2_with fail
        go_ret
        exact ⟨rfl, hbw.trans (hb7.mono hbw.size)⟩
      have hnI : ¬ (100 : Int) < n := by omega
      go_wp2_with fail
      refine (HE1.out _ hbw).mono ?_
      rintro e w1 ⟨rfl, hb1⟩
      have hbw1 := hbw.trans (hb1.mono hbw.size)
      go_wp2_with fail
      refine (HE2.out _ hbw1).mono ?_
      rintro e w2 ⟨rfl, hb2⟩
      have hbw2 := hbw1.trans (hb2.mono hbw1.size)
      go_wp2_with fail
      refine (HC.out _ hbw2).mono ?_
      rintro e w3 ⟨rfl, hb3⟩
      have hbw3 := hbw2.trans (hb3.mono hbw2.size)
      go_wp2_with fail
      go_loopw [12, 57] (fun o t wr => ∃ i : Nat, i ≤ n ∧ t = .int .i64 i ∧ o = .int .i64 (litN (l.take i) : Nat) ∧ Below w.heap.size w wr) (fun _ t _ => n - (intOf t).toNat)
      case atStart => exact ⟨0, Nat.zero_le _, rfl, rfl, hbw3⟩
      case round =>
        obtain ⟨j, hj, rfl, rfl, hbr⟩ := hrel
        by_cases hlt : j < n
        · have hjl : j < l.length := by have := HL.out; omega
          obtain ⟨b, off, rfl, hbb, hcs⟩ := HS.out (by omega)
          have h0 := hcs j hjl 0 (by omega)
          have h1 := hcs j hjl 1 (by omega)
          have h2 := hcs j hjl 2 (by omega)
          rw [← hbr.cell (p := ⟨b, _, none⟩) hbb] at h0 h1 h2
          simp [tkC] at h0 h1 h2
          have hnb : b ≠ wr.heap.size := by have := hbr.size; omega
          have hlt2 := litN_take l j hjl
          have hlj := litN_le (l.take j)
          rw [List.length_take] at hlj
          clear hcs
          have HLT := Lib.hid hlt2; clear hlt2
          generalize litN (l.take j) = a at *
          generalize l[j].byte = x at *
          generalize l[j].long = y at *
          generalize l[j].back = z at *
          have ha : a ≤ j := by omega
          clear hlj
          by_cases hy : y = 0
          · have hyb : (y == 0) = true := by rw [beq_iff_eq]; exact hy
            have hl2 : litN (l.take (j + 1)) = a + 1 := by rw [HLT.out, if_pos hy]
            have HL2 := Lib.hid hl2; clear hl2 hy
            go_wp2_with fail
            go_roundw
            case rel => exact ⟨j + 1, by omega, by go_num, by rw [HL2.out]; go_num, hbr.alloc hbr.size _⟩
            case measure => simp [intOf]; omega
          · have hyb : (y == 0) = false := by rw [beq_eq_false_iff_ne]; exact hy
            have hl2 : litN (l.take (j + 1)) = a := by rw [HLT.out, if_neg hy]; rfl
            have HL2 := Lib.hid hl2; clear hl2 hy
            go_wp2_with fail
            go_roundw
            case rel => exact ⟨j + 1, by omega, by go_num, by rw [HL2.out], hbr.alloc hbr.size _⟩
            case measure => simp [intOf]; omega
        · obtain rfl : j = n := by omega
          have ht : l.take j = l := List.take_of_length_le (by have := HL.out; omega)
          rw [ht]
          generalize litN l = a at *
          have hss : (S.toList == S.toList) = true := by simp
          have hoo : (ok == ok) = true := by simp
          have hc1 : (((j : Int) - a) == ((j : Int) - a)) = true := by simp
          clear ht HE1 HE2 HC HS HL hlt
          go_wp2_with fail
          refine (HR.out _ hbr).mono ?_
          rintro e w5 ⟨rfl, hb5⟩
          have hbw5 := hbr.trans (hb5.mono hbr.size)
          go_wp2_with fail
          refine (lz_lives _).mono ?_
          rintro e w7 ⟨rfl, hb7⟩
          go_wp2_with fail
          go_ret
          exact ⟨rfl, hbw5.trans (hb7.mono hbw5.size)⟩
set_option maxRecDepth 100000 in
theorem dec_tk {H : Type} {enc : TypeId × Value → H} {w : World} (fuel : Nat) (cs : List Value) (x : DataW H × List MemPlace) (h : DataW.trod enc Try.prog w 0 (fun _ => true) true fuel 80 cs = some x) :
    ∃ t : Tk, cs = tkC t ∧ TkIn t := by
  obtain ⟨hl, hf⟩ := dec_fields Try.underlying80 (by kernel_rfl) (by kernel_rfl) h
  match cs, hl with
  | [c0, c1, c2], _ =>
    obtain ⟨v0, n0, y0, e0, h0⟩ := hf 0 _ rfl
    obtain ⟨v1, n1, y1, e1, h1⟩ := hf 1 _ rfl
    obtain ⟨v2, n2, y2, e2, h2⟩ := hf 2 _ rfl
    simp at e0 e1 e2
    subst e0 e1 e2
    obtain ⟨k, ek, _, wk⟩ := DataW.trod_int Try.underlying5 h0
    obtain ⟨m, em, _, wm⟩ := DataW.trod_int Try.underlying3 h1
    obtain ⟨q, eq, _, wq⟩ := DataW.trod_int Try.underlying3 h2
    simp at ek em eq
    subst ek em eq
    obtain ⟨k0, k1⟩ := bounds_u8 wk
    exact ⟨⟨k, m, q⟩, rfl, k0, by show k < 256; omega⟩
set_option maxRecDepth 100000 in
theorem lzExpands_walk : Walks 13 Try.f13 := by
  intro H enc W base args ds ps hval hA hlt hsz
  rw [Try.params13] at hA hval
  obtain ⟨v0, d0, rfl, rfl, h0⟩ := trodAll_one hA
  obtain ⟨A, n, c, l, rfl, hnc, hcm, hl, hsl, hv, _⟩ := open_slice_dec (size := 3) tkC TkIn Try.underlying69 (by kernel_rfl) (by omega) dec_tk (hval 0 69 v0 rfl rfl) h0
  exact lzExpands_main W A n c l hl hnc hcm hsl hv
end Go.Proofs.Ythmlfeaoaanmoaa
