/- The contract of swingleref01.Same: are two slices of texts alike? -/
import Derived.Test.YtjglkbbhihlcgaaDoorSlMore
import Derived.Test.YtjglkbbhihlcgaaDoorRows
set_option linter.unusedVariables false
set_option linter.unusedSimpArgs false
namespace Go.Proofs.YtjglkbbhihlcgaaDoor
open Go.RowKit
open Sw
/-- a text as it lies -/
def sE (t : ByteArray) : List Value := [.string t]
theorem beqT (s t : ByteArray) : (s.toList == t.toList) = decide (s = t) := by
  rw [ByteArray.toList_eq, ByteArray.toList_eq]
  by_cases h : s = t
  · subst h; simp
  · rw [decide_eq_false h, beq_eq_false_iff_ne]
    intro e
    apply h
    cases s; cases t
    congr 1
    exact Array.toList_inj.1 e
set_option maxRecDepth 100000 in
set_option maxHeartbeats 2000000 in
theorem same_any (w : World) (v1 v2 : Value) (l m : List ByteArray) (h1 : SlV w 1 sE v1 l) (h2 : SlV w 1 sE v2 m) :
    Calls Tryd.prog 30 #[v1, v2] w fun e w' => e = .returned (.bool (decide (l = m))) ∧ ∃ n, w' = w.drewN n := by
  obtain ⟨A1, c1, rfl, hc1, hm1, s1⟩ := h1
  obtain ⟨A2, c2, rfl, hc2, hm2, s2⟩ := h2
  unfold maxLen at hm1 hm2
  by_cases hlen : l.length = m.length
  · obtain ⟨b, hb⟩ : ∃ b : Bool, decide (l = m) = b := ⟨_, rfl⟩
    rw [hb]
    have HB := Lib.hid hb; clear hb
    obtain ⟨N, hN⟩ : ∃ N, N = l.length := ⟨_, rfl⟩
    have hN2 : m.length = N := by omega
    rw [← hN, hN2]
    rw [← hN] at hc1
    rw [hN2] at hc2
    have HL := Lib.hid (And.intro hN hN2); clear hlen hN hN2
    have HS := Lib.hid (And.intro s1 s2); clear s1 s2
    go_enter Tryd.func30, Tryd.ntmps30
    go_wp2_with fail
    go_loopw [13] (fun i wr => ∃ k q : Nat, k ≤ N ∧ i = .int .i64 k ∧ l.take k = m.take k ∧ wr = w.drewN q) (fun i _ => N - (intOf i).toNat)
    case atStart => exact ⟨0, 0, Nat.zero_le _, rfl, by simp, rfl⟩
    case round =>
      obtain ⟨k, q, hk, rfl, htk, rfl⟩ := hrel
      have HT := Lib.hid htk; clear htk
      by_cases hlt : k < N
      · have k1 : k < l.length := by have := HL.out; omega
        have k2 : k < m.length := by have := HL.out; omega
        obtain ⟨b1, o1, rfl, _, q1⟩ := HS.out.1 (by omega)
        obtain ⟨b2, o2, rfl, _, q2⟩ := HS.out.2 (by omega)
        have g1 := q1 k k1 0 (by omega)
        have g2 := q2 k k2 0 (by omega)
        simp [sE] at g1 g2
        have t1 : l.take (k + 1) = l.take k ++ [l[k]] := by rw [List.take_succ_eq_append_getElem k1]
        have t2 : m.take (k + 1) = m.take k ++ [m[k]] := by rw [List.take_succ_eq_append_getElem k2]
        have hne : l[k] ≠ m[k] → l ≠ m := fun h e => h (by subst e; rfl)
        have HE := Lib.hid (And.intro t1 (And.intro t2 hne)); clear t1 t2 hne q1 q2
        have i0 : (0 : Int) ≤ k := by omega
        have i1 : (k : Int) < N := by omega
        generalize l[k] = x at *
        generalize m[k] = y at *
        have hbq := beqT x y
        by_cases hxy : x = y
        · have HXY := Lib.hid hxy
          rw [decide_eq_true hxy] at hbq
          clear hxy
          go_wp2_with fail
          go_quiet (fail)
          go_wp2_with fail
          go_roundw
          case rel => exact ⟨k + 1, q + nq, by omega, by go_num, by rw [HE.out.1, HE.out.2.1, HT.out, HXY.out], rfl⟩
          case measure => simp [intOf]; omega
        · rw [decide_eq_false hxy] at hbq
          have hbf : b = false := by rw [← HB.out]; exact decide_eq_false (HE.out.2.2 hxy)
          subst hbf
          clear hxy
          go_wp2_with fail
          go_quiet (fail)
          go_wp2_with fail
          go_ret
          exact ⟨rfl, q + nq, by rw [World.drewN_drewN]⟩
      · obtain rfl : k = N := by omega
        have hbt : b = true := by
          rw [← HB.out]
          have h := HT.out
          rw [List.take_of_length_le (by have := HL.out; omega), List.take_of_length_le (by have := HL.out; omega)] at h
          exact decide_eq_true h
        subst hbt
        go_wp2_with fail
        go_ret
        exact ⟨rfl, q, rfl⟩
  · have hd : decide (l = m) = false := decide_eq_false (fun e => hlen (by rw [e]))
    have hne : (l.length : Int) ≠ m.length := by omega
    have hbn : ((l.length : Int) == (m.length : Int)) = false := by rw [beq_eq_false_iff_ne]; exact hne
    rw [hd]
    clear hd s1 s2
    go_enter Tryd.func30, Tryd.ntmps30
    go_wp2_with fail
    go_ret
    exact ⟨rfl, 0, rfl⟩
end Go.Proofs.YtjglkbbhihlcgaaDoor
