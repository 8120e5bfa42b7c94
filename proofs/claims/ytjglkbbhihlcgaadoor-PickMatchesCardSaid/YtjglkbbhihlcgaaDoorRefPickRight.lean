/- The contract of the reference's Right of layer 42. -/
import Derived.Test.YtjglkbbhihlcgaaDoorPickRight
set_option linter.unusedVariables false
set_option linter.unusedSimpArgs false
namespace Sw
open Go Go.RowKit
open Go.Proofs.YtjglkbbhihlcgaaDoor (pRt)
theorem mem_jnL {b : UInt8} : ∀ (l : List (List UInt8)) (x : List UInt8), x ∈ l → b ∈ x → b ∈ jnL l
  | [], x, h, _ => by cases h
  | [y], x, h, hb => by
    have : x = y := by simpa using h
    subst this
    simpa [jnL] using hb
  | y :: z :: l, x, h, hb => by
    rw [jnL_cons y _ (by simp), List.mem_append, List.mem_cons]
    rcases List.mem_cons.1 h with h | h
    · subst h; exact .inl hb
    · exact .inr (.inr (mem_jnL (z :: l) x h hb))
/-- a part that may not be -/
def badP (x : ByteArray) : Bool := decide (x = ⟨#[]⟩) || decide ((0 : UInt8) ∈ x.data.toList)
theorem pRt_eq (s : ByteArray) : pRt s = (decide (s.size ≤ 200) && (decide ((spS s).length ≤ 12) && !(spS s).any badP)) := by
  unfold pRt
  congr 2
  rw [ix_mem]
  have h1 : decide ((0 : UInt8) ∈ s.data.toList) = (spS s).any (fun x => decide ((0 : UInt8) ∈ x.data.toList)) := by
    rw [Bool.eq_iff_iff, decide_eq_true_eq, List.any_eq_true]
    have hj := jn_spS s
    constructor
    · intro h
      rw [← hj] at h
      rcases jnL_mem _ h with h | ⟨x, hx, hb⟩
      · cases h
      · unfold datL at hx
        obtain ⟨y, hy, rfl⟩ := List.mem_map.1 hx
        exact ⟨y, hy, decide_eq_true hb⟩
    · rintro ⟨x, hx, hb⟩
      rw [← hj]
      exact mem_jnL _ x.data.toList (List.mem_map.2 ⟨x, hx, rfl⟩) (of_decide_eq_true hb)
  rw [h1]
  unfold inS
  have h2 : ∀ l : List ByteArray, (!(l.any fun y => decide (y = ⟨#[]⟩)) && !(l.any fun x => decide ((0 : UInt8) ∈ x.data.toList))) = !l.any badP := by
    intro l
    induction l with
    | nil => rfl
    | cons x l ih =>
      rw [List.any_cons, List.any_cons, List.any_cons, badP]
      cases decide (x = ⟨#[]⟩) <;> cases decide ((0 : UInt8) ∈ x.data.toList) <;> simp_all
  exact h2 _
end Sw
namespace Go.Proofs.YtjglkbbhihlcgaaDoor
open Go Go.RowKit
open Sw
set_option maxRecDepth 100000 in
set_option maxHeartbeats 4000000 in
theorem refPickRight_any (w : World) (s : ByteArray) (hs : s.size ≤ 100000) :
    Calls Tryd.prog 19 #[.string s] w fun e w' => e = .returned (.bool (pRt s)) ∧ Below w.heap.size w w' := by
  have hp := pRt_eq s
  have HS := Lib.hid (refSplit_any w s hs)
  have hz := spS_size s
  generalize spS s = L at *
  obtain ⟨N, hN⟩ : ∃ N, L.length = N := ⟨_, rfl⟩
  rw [hN] at hp
  have HN := Lib.hid hN; clear hN
  have HP := Lib.hid hp; clear hp
  have HZ := Lib.hid hz; clear hz
  generalize pRt s = R at *
  go_enter Tryd.func19, Tryd.ntmps19
  go_wp2_with fail
  refine HS.out.mono ?_
  rintro e w1 ⟨v, rfl, hown, hb1⟩
  obtain ⟨A, c, rfl, hc, hm, hsl⟩ := SlV.of_own hown bE_len (by omega)
  rw [HN.out] at hc ⊢
  unfold maxLen at hm
  clear hown
  have HSL := Lib.hid hsl; clear hsl
  by_cases h1 : s.size ≤ 200
  · have h1I : (s.size : Int) ≤ 200 := by omega
    have h1J : ¬ (200 : Int) < s.size := by omega
    by_cases h2 : N ≤ 12
    · have h2J : ¬ (12 : Int) < N := by omega
      have h2I : (N : Int) ≤ 12 := by omega
      have HR := Lib.hid (show R = !L.any badP by rw [HP.out, decide_eq_true h1, decide_eq_true h2]; rfl)
      clear h1 h2
      go_wp2_with fail
      go_loopw [2, 5, 6, 19] (fun r _ _ iv wr => ∃ i : Nat, i ≤ N ∧ r = .bool false ∧ iv = .int .i64 i ∧ (∀ j (h : j < L.length), j < i → badP L[j] = false) ∧ w1 = wr) (fun _ _ _ iv _ => N - (intOf iv).toNat)
      case atStart => exact ⟨0, Nat.zero_le _, rfl, rfl, fun j _ h => absurd h (Nat.not_lt_zero _), rfl⟩
      case round =>
        obtain ⟨i, hi, rfl, rfl, hall, rfl⟩ := hrel
        have HA := Lib.hid hall; clear hall
        by_cases hlt : i < N
        · have hiL : i < L.length := by have := HN.out; omega
          obtain ⟨b, off, rfl, _, hcs⟩ := HSL.out (by omega)
          have hci := hcs i hiL 0 (by omega)
          simp [bE] at hci
          clear hcs
          have hi1 : (i : Int) < N := by omega
          have HBAD := Lib.hid (fun (h : badP L[i] = true) => (show R = false by
            rw [HR.out, List.any_eq_true.2 ⟨L[i], List.getElem_mem hiL, h⟩]; rfl))
          have HNX := Lib.hid (fun (hx : badP L[i] = false) => (fun j (h : j < L.length) (hj : j < i + 1) => (by
            by_cases h2 : j < i
            · exact HA.out j h h2
            · obtain rfl : j = i := by omega
              exact hx : badP L[j] = false)))
          have hXz := HZ.out _ (List.getElem_mem hiL)
          generalize L[i] = X at *
          have hse := str_empty X
          by_cases hX : X = ⟨#[]⟩
          · have HF := Lib.hid (HBAD.out (by unfold badP; rw [decide_eq_true hX]; rfl))
            rw [decide_eq_true hX] at hse
            clear hX
            go_wp2_with fail
            go_ret
            exact ⟨by rw [HF.out]; first | done | rfl, hb1⟩
          · rw [decide_eq_false hX] at hse
            have HXE := Lib.hid hX; clear hX
            have hXI : (X.size : Int) ≤ 100000 := by omega
            go_wp2_with fail
            go_loopw [2, 6] (fun r kv wr => ∃ k : Nat, k ≤ X.size ∧ r = .bool false ∧ kv = .int .i64 k ∧ (∀ j (h : j < X.size), j < k → X[j] ≠ 0) ∧ w1 = wr) (fun _ kv _ => X.size - (intOf kv).toNat)
            case atStart => exact ⟨0, Nat.zero_le _, rfl, rfl, fun j _ h => absurd h (Nat.not_lt_zero _), rfl⟩
            case round =>
              obtain ⟨k, hk, rfl, rfl, hal, rfl⟩ := hrel
              have HB := Lib.hid hal; clear hal
              by_cases hkl : k < X.size
              · have hkI : (k : Int) < X.size := by omega
                by_cases h0 : X[k] = 0
                · have e0 : ((X[k].toNat : Int) == 0) = true := by rw [h0]; rfl
                  have HF := Lib.hid (HBAD.out (by
                    unfold badP
                    have : (0 : UInt8) ∈ X.data.toList := by
                      rw [← h0]
                      have : X[k] = X.data.toList[k]'(by simpa using hkl) := by simp; rfl
                      rw [this]
                      exact List.getElem_mem _
                    rw [decide_eq_true this, Bool.or_true]))
                  clear h0
                  go_wp2_with fail
                  go_ret
                  exact ⟨by rw [HF.out]; first | done | rfl, hb1⟩
                · have e0 : ((X[k].toNat : Int) == 0) = false := by
                    rw [beq_eq_false_iff_ne]
                    intro e
                    exact h0 (UInt8.toNat_inj.1 (show X[k].toNat = (0 : UInt8).toNat by have : (0 : UInt8).toNat = 0 := rfl; omega))
                  have HNK := Lib.hid (fun j (h : j < X.size) (hj : j < k + 1) => (by
                    by_cases h2 : j < k
                    · exact HB.out j h h2
                    · obtain rfl : j = k := by omega
                      exact h0 : X[j] ≠ 0))
                  clear h0
                  go_wp2_with fail
                  go_roundw
                  case rel => exact ⟨k + 1, by omega, rfl, by go_num, HNK.out, by simp⟩
                  case measure => simp [intOf]; omega
              · obtain rfl : k = X.size := by omega
                have HNY := Lib.hid (HNX.out (by
                  unfold badP
                  rw [decide_eq_false HXE.out, Bool.false_or]
                  refine decide_eq_false fun h => ?_
                  obtain ⟨j, hj, he⟩ := List.getElem_of_mem h
                  have hjs : j < X.size := by simpa using hj
                  exact HB.out j hjs hjs (by rw [← he]; simp; rfl)))
                clear hkl
                go_wp2_with fail
                go_roundw
                case rel => exact ⟨i + 1, by omega, rfl, by go_num, HNY.out, by simp⟩
                case measure => simp [intOf]; omega
        · obtain rfl : i = N := by omega
          have HF := Lib.hid (show R = true by
            rw [HR.out]
            have : L.any badP = false := by
              rw [List.any_eq_false]
              intro x hx
              obtain ⟨j, hj, rfl⟩ := List.getElem_of_mem hx
              rw [HA.out j hj (by have := HN.out; omega)]
              simp
            rw [this]
            rfl)
          clear hlt
          go_wp2_with fail
          go_ret
          exact ⟨by rw [HF.out]; first | done | rfl, hb1⟩
    · have h2J : (12 : Int) < N := by omega
      have HR := Lib.hid (show R = false by rw [HP.out, decide_eq_false h2, Bool.false_and, Bool.and_false])
      clear h2 h1
      go_wp2_with fail
      go_ret
      exact ⟨by rw [HR.out]; first | done | rfl, hb1⟩
  · have h1J : (200 : Int) < s.size := by omega
    have HR := Lib.hid (show R = false by rw [HP.out, decide_eq_false h1, Bool.false_and])
    clear h1
    go_wp2_with fail
    go_ret
    exact ⟨by rw [HR.out]; first | done | rfl, hb1⟩
end Go.Proofs.YtjglkbbhihlcgaaDoor
