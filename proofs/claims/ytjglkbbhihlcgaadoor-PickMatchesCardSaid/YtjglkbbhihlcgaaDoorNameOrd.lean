/- Contracts of cmp.Compare and slices.Compare at texts, of name.Order, name.Under, and of the reference's Before. -/
import Derived.Test.YtjglkbbhihlcgaaDoorOrdPlain
import Derived.Test.YtjglkbbhihlcgaaDoorNameUpsB
import Derived.Test.YtjglkbbhihlcgaaDoorRefUps
set_option linter.unusedVariables false
set_option linter.unusedSimpArgs false
namespace Sw
open Go Go.RowKit
open Go.Lib (compareBytes)
theorem toList_data (x : ByteArray) : x.toList = x.data.toList := ByteArray.toList_eq x
theorem less_str (x y : ByteArray) : Op.bytesLess x.toList y.toList = decide (compareBytes x.data.toList y.data.toList = -1) := by
  rw [toList_data, toList_data, less_cb]
theorem eq_str (x y : ByteArray) : (x.toList == y.toList) = decide (compareBytes x.data.toList y.data.toList = 0) := by
  rw [toList_data, toList_data]
  by_cases h : x.data.toList = y.data.toList
  · rw [decide_eq_true ((cb_zero_iff _ _).2 h), h, beq_self_eq_true]
  · rw [decide_eq_false (fun e => h ((cb_zero_iff _ _).1 e)), beq_eq_false_iff_ne]
    exact h
end Sw
namespace Go.Proofs.YtjglkbbhihlcgaaDoor
open Go Go.RowKit
open Sw
open Go.Lib (compareBytes)
theorem isNaN_any (w : World) (x : ByteArray) :
    Calls Tryd.prog 82 #[.string x] w fun e w' => e = .returned (.bool false) ∧ w = w' := by
  have hx : (x.toList == x.toList) = true := by simp
  go_enter Tryd.func82, Tryd.ntmps82
  go_wp2_with fail
  go_ret
  exact ⟨by simp, rfl⟩
theorem cmpStr_any (w : World) (x y : ByteArray) :
    Calls Tryd.prog 71 #[.string x, .string y] w fun e w' => e = .returned (.int .i64 (compareBytes x.data.toList y.data.toList)) ∧ w = w' := by
  have h1 := less_str x y
  have h2 := eq_str x y
  have h3 := cb_three x.data.toList y.data.toList
  generalize compareBytes x.data.toList y.data.toList = c at *
  rcases h3 with rfl | rfl | rfl
  · rw [decide_eq_true rfl] at h1
    rw [decide_eq_false (by omega)] at h2
    go_enter Tryd.func71, Tryd.ntmps71
    go_wp2_with (go_at_call 82; refine (isNaN_any _ _).mono ?_; rintro e w1 ⟨rfl, rfl⟩)
    go_ret
    exact ⟨rfl, rfl⟩
  · rw [decide_eq_false (by omega)] at h1
    rw [decide_eq_true rfl] at h2
    go_enter Tryd.func71, Tryd.ntmps71
    go_wp2_with (go_at_call 82; refine (isNaN_any _ _).mono ?_; rintro e w1 ⟨rfl, rfl⟩)
    go_ret
    exact ⟨rfl, rfl⟩
  · rw [decide_eq_false (by omega)] at h1
    rw [decide_eq_false (by omega)] at h2
    go_enter Tryd.func71, Tryd.ntmps71
    go_wp2_with (go_at_call 82; refine (isNaN_any _ _).mono ?_; rintro e w1 ⟨rfl, rfl⟩)
    go_ret
    exact ⟨rfl, rfl⟩
set_option maxRecDepth 100000 in
set_option maxHeartbeats 2000000 in
theorem slCmp_any (w : World) (v1 v2 : Value) (l m : List ByteArray) (h1 : SlV w 1 bE v1 l) (h2 : SlV w 1 bE v2 m) :
    Calls Tryd.prog 56 #[v1, v2] w fun e w' => e = .returned (.int .i64 (cL l m)) ∧ w = w' := by
  obtain ⟨A1, c1, rfl, hc1, hm1, s1⟩ := h1
  obtain ⟨A2, c2, rfl, hc2, hm2, s2⟩ := h2
  unfold maxLen at hm1 hm2
  have hat := fun k => cL_at k l m
  have hout := fun k => cL_out k l m
  have hout2 := fun k => cL_out2 k l m
  have htk : ∀ k, l.take k = m.take k → ∀ (k1 : k < l.length) (k2 : k < m.length), compareBytes l[k].data.toList m[k].data.toList = 0 → l.take (k + 1) = m.take (k + 1) := fun k h k1 k2 hc => by
    rw [List.take_succ_eq_append_getElem k1, List.take_succ_eq_append_getElem k2, h, dat_inj (cb_zero _ _ hc)]
  obtain ⟨N, hN⟩ : ∃ N, l.length = N := ⟨_, rfl⟩
  obtain ⟨M, hM⟩ : ∃ M, m.length = M := ⟨_, rfl⟩
  obtain ⟨R, hR⟩ : ∃ R, cL l m = R := ⟨_, rfl⟩
  rw [hN] at hc1 ⊢
  rw [hM] at hc2 ⊢
  rw [hR] at hat hout hout2 ⊢
  rw [hN, hM] at hout hout2
  have HA := Lib.hid (And.intro hat (And.intro hout (And.intro hout2 htk))); clear hat hout hout2 htk
  have HL := Lib.hid (And.intro hN hM); clear hN hM
  have HS := Lib.hid (And.intro s1 s2); clear s1 s2 hR
  go_enter Tryd.func56, Tryd.ntmps56
  go_wp2_with fail
  go_loopw [4, 5, 6, 7, 8, 11] (fun r _ _ _ _ iv wr => ∃ k : Nat, k ≤ N ∧ r = .int .i64 0 ∧ iv = .int .i64 k ∧ l.take k = m.take k ∧ w = wr) (fun _ _ _ _ _ iv _ => N - (intOf iv).toNat)
  case atStart => exact ⟨0, Nat.zero_le _, rfl, rfl, by simp, rfl⟩
  case round =>
    obtain ⟨k, hk, rfl, rfl, htk, rfl⟩ := hrel
    have HT := Lib.hid htk; clear htk
    by_cases hlt : k < N
    · have k1 : k < l.length := by have := HL.out; omega
      obtain ⟨b1, o1, rfl, _, q1⟩ := HS.out.1 (by omega)
      have g1 := q1 k k1 0 (by omega)
      simp [bE] at g1
      have i1 : (k : Int) < N := by omega
      by_cases hlt2 : k < M
      · have k2 : k < m.length := by have := HL.out; omega
        obtain ⟨b2, o2, rfl, _, q2⟩ := HS.out.2 (by omega)
        have g2 := q2 k k2 0 (by omega)
        simp [bE] at g2
        have i2 : (k : Int) < M := by omega
        have i3 : ¬ (M : Int) ≤ k := by omega
        have HX := Lib.hid (HA.out.1 k HT.out k1 k2)
        have HY := Lib.hid (HA.out.2.2.2 k HT.out k1 k2)
        have HC := Lib.hid (cmpStr_any w l[k] m[k])
        clear q1 q2
        generalize l[k] = x at *
        generalize m[k] = y at *
        generalize compareBytes x.data.toList y.data.toList = cc at *
        by_cases hc0 : cc = 0
        · have HNX := Lib.hid (HY.out hc0)
          subst hc0
          go_wp2_with fail
          refine HC.out.mono ?_
          rintro e w2 ⟨rfl, rfl⟩
          go_wp2_with fail
          go_roundw
          case rel => exact ⟨k + 1, by omega, rfl, by go_num, HNX.out, by simp⟩
          case measure => simp [intOf]; omega
        · have hR : R = cc := by have := HX.out; rw [if_neg hc0] at this; exact this
          subst hR
          have hcb : (R == 0) = false := by rw [beq_eq_false_iff_ne]; exact hc0
          go_wp2_with fail
          refine HC.out.mono ?_
          rintro e w2 ⟨rfl, rfl⟩
          go_wp2_with fail
          go_ret
          exact ⟨rfl, rfl⟩
      · obtain hMk : M ≤ k := by omega
        have htm : m.length = M := HL.out.2
        have hR : R = 1 := by
          have hm' : m.take k = m := List.take_of_length_le (by omega)
          have hlen := congrArg List.length HT.out
          rw [List.length_take, hm', htm] at hlen
          have : M = k := by have := HL.out.1; omega
          exact HA.out.2.2.1 k HT.out this hlt
        subst hR
        have i3 : (M : Int) ≤ k := by omega
        clear htm
        go_wp2_with fail
        go_ret
        exact ⟨rfl, rfl⟩
    · obtain rfl : k = N := by omega
      have hR := HA.out.2.1 k HT.out rfl
      by_cases hkm : k < M
      · rw [if_pos hkm] at hR
        subst hR
        have i3 : (k : Int) < M := by omega
        clear hlt
        go_wp2_with fail
        go_ret
        exact ⟨rfl, rfl⟩
      · rw [if_neg hkm] at hR
        subst hR
        have i3 : ¬ (k : Int) < M := by omega
        clear hlt
        go_wp2_with fail
        go_ret
        exact ⟨rfl, rfl⟩
end Go.Proofs.YtjglkbbhihlcgaaDoor
