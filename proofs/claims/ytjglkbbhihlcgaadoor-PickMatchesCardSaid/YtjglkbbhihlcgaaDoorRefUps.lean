/- The contract of the reference's Ups. -/
import Derived.Test.YtjglkbbhihlcgaaDoorNameUpsB
set_option linter.unusedVariables false
set_option linter.unusedSimpArgs false
namespace Go.Proofs.YtjglkbbhihlcgaaDoor
open Go Go.RowKit
open Sw
theorem partsS_wt (s : ByteArray) : wt (partsS s) ≤ s.size + 1 := by
  unfold partsS
  split
  · rw [spS_wt]; omega
  · exact Nat.zero_le _
theorem wt_take (l : List ByteArray) : ∀ k, wt (l.take k) ≤ wt l := by
  induction l with
  | nil => intro k; simp
  | cons x l ih =>
    intro k
    cases k with
    | zero => simp [wt]
    | succ k => rw [List.take_succ_cons, wt_cons, wt_cons]; have := ih k; omega
set_option maxRecDepth 100000 in
set_option maxHeartbeats 4000000 in
theorem refUps_any (w : World) (s : ByteArray) (hs : s.size ≤ 90000) :
    Calls Tryd.prog 26 #[.string s] w (SlPost (upsS s) w) := by
  have HP := Lib.hid (refParts_any w s (by omega))
  have hwt := partsS_wt s
  have hwl := wt_len (partsS s)
  have hUl := upsS_len s
  have hUa := upsS_at s
  generalize upsS s = U at *
  generalize partsS s = L at *
  have HUA := Lib.hid hUa; clear hUa
  have HF := Lib.hid (fun v w' (h : SlV w' 1 bE v U) (hb : Below w.heap.size w w') => (show SlPost U w (.returned v) w' from ⟨v, rfl, h, hb⟩))
  go_enter Tryd.func26, Tryd.ntmps26
  go_wp2_with fail
  refine HP.out.mono ?_
  rintro e w1 ⟨v, rfl, hown, hb1⟩
  obtain ⟨A, c, rfl, hc, hm, hsl⟩ := SlV.of_own hown bE_len (by omega)
  unfold maxLen at hm
  obtain ⟨N, hN⟩ : ∃ N, L.length = N := ⟨_, rfl⟩
  have HN := Lib.hid hN
  rw [hN] at hc hwl hUl ⊢
  clear hN hown
  have HSL := Lib.hid hsl; clear hsl
  have HUL := Lib.hid hUl; clear hUl
  go_wp2_with fail
  go_loopw [3, 5] (fun o iv wr => ∃ n : Nat, 1 ≤ n ∧ n ≤ max 1 N ∧ iv = .int .i64 n ∧ wr.ownsRow w1.heap.size 9 1 o (n - 1) ((U.take (n - 1)).flatMap bE) ∧ Below w1.heap.size w1 wr) (fun _ iv _ => N - (intOf iv).toNat)
  case atStart => exact ⟨1, Nat.le_refl _, by omega, rfl, ⟨rfl, .inl ⟨rfl, rfl⟩⟩, Below.refl _ _⟩
  case round =>
    obtain ⟨n, hn1, hnN, rfl, hown, hbr⟩ := hrel
    by_cases hlt : n < N
    · obtain ⟨k, rfl⟩ : ∃ k, n = k + 1 := ⟨n - 1, by omega⟩
      have hkU : k < U.length := by have := HUL.out; omega
      have hj := refJoin_any wr A (k + 1) c (L.take (k + 1)) (by rw [List.length_take]; have := HN.out; omega) (by unfold maxLen; omega) ((HSL.out.below hbr (Nat.le_refl _)).take (k + 1)) (by have h1 := wt_jn (L.take (k + 1)); have h2 := wt_take L (k + 1); omega)
      rw [← HUA.out k hkU] at hj
      have hdr : (U.take (k + 1)).flatMap bE = (U.take k).flatMap bE ++ [.string U[k]] := by
        rw [List.take_succ_eq_append_getElem hkU, flat_snoc]
      have HDR := Lib.hid hdr; clear hdr
      have HJ := Lib.hid hj; clear hj
      rw [Nat.add_sub_cancel] at hown
      generalize U[k] = X at *
      have hl6 : k + 1 ≤ 1000000 := by omega
      have hkI : (k : Int) + 1 < N := by omega
      have hkc : (k : Int) + 1 ≤ c := by omega
      have HO := Lib.hid hown; clear hown
      go_wp2_with fail
      refine HJ.out.mono ?_
      rintro e w2 ⟨rfl, rfl⟩
      go_wp2_with (refine wpList_app rfl _ _ 26 rfl w1.heap.size 9 (.string ByteArray.empty) 1 16 Tryd.underlying26 info_str rfl (by omega) u3 k ((U.take k).flatMap bE) (by simp [Act.eval, Act.put]) (own_kept HO.out ((Below.refl _ _).alloc (Nat.le_refl _) _)) wr.heap.size 1 _ _ (by simp [Act.eval, Act.put]) (Blk.new _ _ _) rfl (by simp [Value.oneCell']) hl6 (by omega) (by have := hbr.size; simp; omega) _ rfl ?_; intro g2 cap2 w5 ho2 hg2 hat2 hlt2)
      have hw5 : Below w1.heap.size w1 w5 := own_below HO.out (hbr.alloc hbr.size _) hg2 (Nat.le_refl _) (by have := hbr.size; simp; omega)
      go_roundw
      case rel => exact ⟨k + 1 + 1, by omega, by omega, by go_num, by rw [Nat.add_sub_cancel, HDR.out]; exact ho2, hw5⟩
      case measure => simp [intOf]; omega
    · have hU : U.take (n - 1) = U := List.take_of_length_le (by have := HUL.out; omega)
      rw [hU] at hown
      have hsl := SlV.of_own hown bE_len (by omega)
      have HG := Lib.hid (HF.out _ wr hsl (hb1.trans (hbr.mono hb1.size)))
      have hltI : ¬ (n : Int) < N := by omega
      clear hsl hown hU
      go_wp2_with fail
      go_ret
      exact HG.out
end Go.Proofs.YtjglkbbhihlcgaaDoor
