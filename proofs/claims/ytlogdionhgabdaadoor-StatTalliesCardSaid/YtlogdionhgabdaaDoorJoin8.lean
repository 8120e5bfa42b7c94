/- Several texts, joined for the limit of sixty files; each one opens with its own comment. -/
import Derived.Test.YtlogdionhgabdaaDoorJoin7
/- slices.SortStableFunc at rows of stat.pair[int]: two stretches side by side change places. -/
set_option linter.unusedVariables false
set_option linter.unusedSimpArgs false
namespace Go.Proofs.YtlogdionhgabdaaDoor
open Go Go.RowKit
open Sw
set_option maxRecDepth 100000 in
set_option maxHeartbeats 4000000 in
theorem rotatePI_any (w : World) (base : Nat) (A : Option Addr) (c : Nat) (cv : Value) (n a m b : Nat) (P U V Q : List (Int × Int)) (hn : n ≤ 1000000) (hlen : (P ++ U ++ V ++ Q).length = n) (hP : P.length = a) (hU : a + U.length = m) (hV : m + V.length = b) (hU0 : 0 < U.length) (hV0 : 0 < V.length)
    (hown : w.ownsRow base 61 2 (.slice A n c) n ((P ++ U ++ V ++ Q).flatMap eCPI)) :
    Calls Tryd.prog 55 #[.slice A n c, .int .i64 a, .int .i64 m, .int .i64 b, cv] w fun e w' => e = .returned (.tuple #[]) ∧ w'.ownsRow base 61 2 (.slice A n c) n ((P ++ V ++ U ++ Q).flatMap eCPI) ∧ w.grownBy w' (Value.slice A n c).ownBlock := by
  have hlen' : P.length + U.length + V.length + Q.length = n := by rw [← hlen]; simp only [List.length_append]
  obtain ⟨T, hT⟩ : ∃ T, P ++ V ++ U ++ Q = T := ⟨_, rfl⟩
  have HT := Lib.hid hT
  have HO := Lib.hid (And.intro hown hlen)
  rw [hT]
  clear hT hown hlen
  have w1 : IntKind.i64.wrap ((m : Int) - a) = m - a := IntWalk.i64_in _ (by omega)
  have w2 : IntKind.i64.wrap ((b : Int) - m) = b - m := IntWalk.i64_in _ (by omega)
  go_enter Tryd.func55, Tryd.ntmps55
  go_wp2_with fail
  go_loopw [10, 11] (fun iv jv wr => ∃ (i j : Nat) (P' U' V' Q' : List (Int × Int)), iv = .int .i64 i ∧ jv = .int .i64 j ∧ 0 < i ∧ 0 < j ∧ U'.length = i ∧ V'.length = j ∧ P'.length + i = m ∧ P' ++ V' ++ U' ++ Q' = T ∧ (P' ++ U' ++ V' ++ Q').length = n ∧ wr.ownsRow base 61 2 (.slice A n c) n ((P' ++ U' ++ V' ++ Q').flatMap eCPI) ∧ w.grownBy wr (Value.slice A n c).ownBlock) (fun iv jv _ => (intOf iv + intOf jv).toNat)
  case atStart => exact ⟨U.length, V.length, P, U, V, Q, by go_num, by go_num, hU0, hV0, rfl, rfl, by omega, HT.out, HO.out.2, HO.out.1, grown_refl _ _⟩
  case round =>
    obtain ⟨i, j, P', U', V', Q', rfl, rfl, hi0, hj0, hU', hV', hPi, hTT, hln, hrow, hg⟩ := hrel
    have hln' : P'.length + i + j + Q'.length = n := by rw [← hln, ← hU', ← hV']; simp only [List.length_append]
    have HG := Lib.hid (And.intro hTT (And.intro hln (And.intro hrow hg))); clear hTT hln hrow hg HO
    have p1 : (m : Int) - i = ((m - i : Nat) : Int) := by omega
    have p2 : (m : Int) + j - i = ((m + j - i : Nat) : Int) := by omega
    rcases Nat.lt_trichotomy i j with h | h | h
    · have hne : ((i : Int) != j) = true := by rw [bne_iff_ne]; omega
      have hgt : ¬ (j : Int) < i := by omega
      have w3 : IntKind.i64.wrap ((j : Int) - i) = ((j - i : Nat) : Int) := by rw [IntWalk.i64_in _ (by omega)]; omega
      have w4 : IntKind.i64.wrap (((m - i : Nat) : Int)) = ((m - i : Nat) : Int) := IntWalk.i64_in _ (by omega)
      have w5 : IntKind.i64.wrap ((m : Int) + j) = m + j := IntWalk.i64_in _ (by omega)
      have w6 : IntKind.i64.wrap (((m + j - i : Nat) : Int)) = ((m + j - i : Nat) : Int) := IntWalk.i64_in _ (by omega)
      have hsp : V' = V'.take (j - i) ++ V'.drop (j - i) := (List.take_append_drop _ _).symm
      have hse := swL_end P' U' (V'.take (j - i)) (V'.drop (j - i)) Q' (by rw [List.length_drop]; omega)
      have hl1 : (V'.take (j - i)).length = j - i := by rw [List.length_take]; omega
      have e1 : P' ++ U' ++ V'.take (j - i) ++ V'.drop (j - i) ++ Q' = P' ++ U' ++ V' ++ Q' := by
        conv => rhs; rw [hsp]
        simp only [List.append_assoc]
      rw [e1, hU', hl1, show P'.length + i + (j - i) = m + j - i by omega, show P'.length = m - i by omega] at hse
      have HS := Lib.hid (swapRangePI_any wr base (.slice A n c) cv n (m - i) (m + j - i) i _ HG.out.2.1 hn (by omega) (by omega) HG.out.2.2.1)
      rw [hse] at HS
      have hT2 : P' ++ V'.take (j - i) ++ V'.drop (j - i) ++ (U' ++ Q') = T := by
        rw [← HG.out.1]
        conv => rhs; rw [hsp]
        simp only [List.append_assoc]
      have hl2 : (P' ++ V'.drop (j - i) ++ V'.take (j - i) ++ (U' ++ Q')).length = n := by simp only [List.length_append, List.length_drop, hl1]; omega
      have e2 : P' ++ V'.drop (j - i) ++ V'.take (j - i) ++ U' ++ Q' = P' ++ V'.drop (j - i) ++ V'.take (j - i) ++ (U' ++ Q') := by simp only [List.append_assoc]
      rw [e2] at HS
      have hl3 : (V'.drop (j - i)).length = i := by rw [List.length_drop]; omega
      have HX := Lib.hid (And.intro hT2 (And.intro hl2 (And.intro hl1 hl3))); clear hT2 hl2 hl1 hl3 e1 e2 hse hsp
      go_wp2_with fail
      refine HS.out.mono ?_
      rintro e w3' ⟨rfl, hrow2, hg2⟩
      have H3 := Lib.hid (And.intro hrow2 (grown_trans HG.out.2.2.2 hg2)); clear hrow2 hg2 HS
      go_wp2_with fail
      go_roundw
      case rel => exact ⟨i, j - i, P', V'.drop (j - i), V'.take (j - i), U' ++ Q', rfl, by go_num, hi0, by omega, HX.out.2.2.2, HX.out.2.2.1, by omega, HX.out.1, HX.out.2.1, H3.out.1, H3.out.2⟩
      case measure => simp [intOf]; omega
    · subst h
      have hne : ((i : Int) != i) = false := by simp
      have w4 : IntKind.i64.wrap (((m - i : Nat) : Int)) = ((m - i : Nat) : Int) := IntWalk.i64_in _ (by omega)
      have hse := swL_end P' U' [] V' Q' (by omega)
      rw [hU', List.length_nil, Nat.add_zero, show P'.length + i = m from hPi, show P'.length = m - i by omega, List.append_nil, List.append_nil] at hse
      have HS := Lib.hid (swapRangePI_any wr base (.slice A n c) cv n (m - i) m i _ HG.out.2.1 hn (by omega) (by omega) HG.out.2.2.1)
      rw [hse, HG.out.1] at HS
      clear hse
      go_wp2_with fail
      refine HS.out.mono ?_
      rintro e w3' ⟨rfl, hrow2, hg2⟩
      have H3 := Lib.hid (And.intro hrow2 (grown_trans HG.out.2.2.2 hg2)); clear hrow2 hg2 HS
      go_wp2_with fail
      go_end0
      exact ⟨rfl, H3.out.1, H3.out.2⟩
    · have hne : ((i : Int) != j) = true := by rw [bne_iff_ne]; omega
      have hgt : (j : Int) < i := by omega
      have w3 : IntKind.i64.wrap ((i : Int) - j) = ((i - j : Nat) : Int) := by rw [IntWalk.i64_in _ (by omega)]; omega
      have w4 : IntKind.i64.wrap (((m - i : Nat) : Int)) = ((m - i : Nat) : Int) := IntWalk.i64_in _ (by omega)
      have hsp : U' = U'.take j ++ U'.drop j := (List.take_append_drop _ _).symm
      have hl1 : (U'.take j).length = j := by rw [List.length_take]; omega
      have hl3 : (U'.drop j).length = i - j := by rw [List.length_drop]; omega
      have hse := swL_end P' (U'.take j) (U'.drop j) V' Q' (by omega)
      have e1 : P' ++ U'.take j ++ U'.drop j ++ V' ++ Q' = P' ++ U' ++ V' ++ Q' := by
        conv => rhs; rw [hsp]
        simp only [List.append_assoc]
      rw [e1, hl1, hl3, show P'.length + j + (i - j) = m by omega, show P'.length = m - i by omega] at hse
      have HS := Lib.hid (swapRangePI_any wr base (.slice A n c) cv n (m - i) m j _ HG.out.2.1 hn (by omega) (by omega) HG.out.2.2.1)
      rw [hse] at HS
      have hT2 : P' ++ V' ++ U'.take j ++ U'.drop j ++ Q' = T := by
        rw [← HG.out.1]
        conv => rhs; rw [hsp]
        simp only [List.append_assoc]
      have hl2 : (P' ++ V' ++ U'.drop j ++ U'.take j ++ Q').length = n := by simp only [List.length_append, hl1, hl3]; omega
      have HX := Lib.hid (And.intro hT2 (And.intro hl2 (And.intro hl1 hl3))); clear hT2 hl2 hl1 hl3 e1 hse hsp
      go_wp2_with fail
      refine HS.out.mono ?_
      rintro e w3' ⟨rfl, hrow2, hg2⟩
      have H3 := Lib.hid (And.intro hrow2 (grown_trans HG.out.2.2.2 hg2)); clear hrow2 hg2 HS
      go_wp2_with fail
      go_roundw
      case rel => exact ⟨i - j, j, P' ++ V', U'.drop j, U'.take j, Q', by go_num, rfl, by omega, hj0, HX.out.2.2.2, HX.out.2.2.1, by rw [List.length_append]; omega, HX.out.1, HX.out.2.1, H3.out.1, H3.out.2⟩
      case measure => simp [intOf]; omega
end Go.Proofs.YtlogdionhgabdaaDoor
