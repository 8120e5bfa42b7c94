/- The walk of FieldNumbers, out of the contracts of field.Put, field.Get and the reference's. -/
import Derived.Test.YthdmajhhioiaoaaLift
import Derived.Test.YthdmajhhioiaoaaFieldGet
import Derived.Test.YthdmajhhioiaoaaFieldPut
set_option linter.unusedVariables false
namespace Go.Proofs.Ythdmajhhioiaoaa
open Go.ChangeShapes Go.WideShapes Go.ChangeAt Go.RowKit
open Go.ChangeMaps (open_string shut_string)
open Sw
theorem field_lives (w : World) : Calls Try.prog 16 #[] w fun e w' => e = .returned (.bool true) ∧ Below w.heap.size w w' := by
  go_enter Try.func16, Try.ntmps16
  go_wp2_with (go_at_call 14; refine (fieldPut_any 258 2 _ (by omega) 2 (by omega) (by decide)).mono ?_; rintro e w' ⟨rfl, hb⟩)
  go_ret
  exact ⟨rfl, ‹_›⟩
theorem fieldNumbers_walk : Walks 3 Try.f3 := by
  intro H enc W base args ds ps hval hA hlt hsz
  rw [Try.params3] at hA hval
  obtain ⟨v0, v1, v2, d0, d1, d2, p0, p1, p2, rfl, rfl, rfl, h0, h1, h2⟩ := trodAll_three hA
  obtain ⟨x, rfl, rfl, rfl, wx⟩ := open_int Try.underlying22 (hval 0 22 v0 rfl rfl) h0
  obtain ⟨n, rfl, rfl, rfl, wn⟩ := open_int Try.underlying3 (hval 1 3 v1 rfl rfl) h1
  obtain ⟨s, rfl, rfl, rfl, hs⟩ := open_string Try.underlying9 (hval 2 9 v2 rfl rfl) h2
  clear hA hval h0 h1 h2 hsz hlt
  obtain ⟨x0, x1⟩ := bounds_u64 wx
  obtain ⟨n0, n1⟩ := bounds_i64 wn
  obtain ⟨x, rfl⟩ := Int.eq_ofNat_of_zero_le x0
  have hx : x < 2 ^ 64 := by omega
  obtain ⟨k, hk, hkn⟩ : ∃ k : Nat, k ≤ 8 ∧ max 0 (min n 8) = (k : Int) := ⟨(max 0 (min n 8)).toNat, by omega, by omega⟩
  clear wx wn x0 x1 n0 n1
  have HX := Lib.hid hx; clear hx
  have HK := Lib.hid hkn; clear hkn
  by_cases hg : 0 ≤ n ∧ n ≤ 8 ∧ n ≤ s.size
  · obtain ⟨g0, g8, gl⟩ := hg
    obtain ⟨m, rfl⟩ := Int.eq_ofNat_of_zero_le g0
    go_enter Try.func3, Try.ntmps3
    go_wp2_with (first | (go_at_call 12; refine (fieldGet_yes s m _ hs (by omega) (by omega)).mono ?_; rintro e w' ⟨rfl, rfl⟩) | (go_at_call 13; refine (refGet_yes s m _ hs (by omega) (by omega)).mono ?_; rintro e w' ⟨rfl, rfl⟩) | (go_at_call 14; refine (fieldPut_any x m _ HX.out k hk HK.out).mono ?_; rintro e w1 ⟨rfl, hb1⟩) | (go_at_call 15; refine (refPut_any x m _ HX.out k hk HK.out).mono ?_; rintro e w2 ⟨rfl, hb2⟩) | (go_at_call 16; refine (field_lives _).mono ?_; rintro e w3 ⟨rfl, hb3⟩))
    go_ret
    exact ⟨rfl, ((hb1.trans (hb2.mono hb1.size)).trans (hb3.mono (Nat.le_trans hb1.size hb2.size)))⟩
  · have hg' : n < 0 ∨ 8 < n ∨ s.size < n := by omega
    clear hg
    have HG := Lib.hid hg'; clear hg'
    go_enter Try.func3, Try.ntmps3
    go_wp2_with (first | (go_at_call 12; refine (fieldGet_no s n _ hs HG.out).mono ?_; rintro e w' ⟨rfl, rfl⟩) | (go_at_call 13; refine (refGet_no s n _ hs HG.out).mono ?_; rintro e w' ⟨rfl, rfl⟩) | (go_at_call 14; refine (fieldPut_any x n _ HX.out k hk HK.out).mono ?_; rintro e w1 ⟨rfl, hb1⟩) | (go_at_call 15; refine (refPut_any x n _ HX.out k hk HK.out).mono ?_; rintro e w2 ⟨rfl, hb2⟩) | (go_at_call 16; refine (field_lives _).mono ?_; rintro e w3 ⟨rfl, hb3⟩))
    go_ret
    exact ⟨rfl, ((hb1.trans (hb2.mono hb1.size)).trans (hb3.mono (Nat.le_trans hb1.size hb2.size)))⟩
end Go.Proofs.Ythdmajhhioiaoaa
