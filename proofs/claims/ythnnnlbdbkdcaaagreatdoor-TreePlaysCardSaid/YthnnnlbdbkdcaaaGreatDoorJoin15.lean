/- Several texts, joined for the limit of sixty files; each one opens with its own comment. -/
import Derived.Test.YthnnnlbdbkdcaaaGreatDoorJoin1
import Derived.Test.YthnnnlbdbkdcaaaGreatDoorJoin14
/- The walk of TreePlays in the statement's form. -/
set_option linter.unusedVariables false
set_option linter.unusedSimpArgs false
namespace Go.Proofs.YthnnnlbdbkdcaaaGreatDoor
open Go Go.ChangeShapes Go.WideShapes Go.ChangeAt Go.RowKit Go.Shelf
open Go.ChangeMaps (open_string)
open Sw
set_option maxRecDepth 100000 in
theorem treePlays_walk : Walks 3 Tryz.f3 := by
  intro H enc W base args ds ps hval hA hlt hsz
  rw [Tryz.params3] at hA hval
  obtain ⟨v0, v1, v2, d0, d1, d2, p0, p1, p2, rfl, rfl, rfl, h0, h1, h2⟩ := trodAll_three hA
  obtain ⟨A, n, c, l, rfl, hnc, hcm, hl, hsl, hv, _⟩ := open_slice_dec (size := 5) eCSN NEIn Tryz.underlying22 (by kernel_rfl) (by omega) dec_item (hval 0 22 v0 rfl rfl) h0
  obtain ⟨t, rfl, rfl, rfl, ht⟩ := open_string Tryz.underlying9 (hval 1 9 v1 rfl rfl) h1
  obtain ⟨m, rfl, rfl, rfl, wm⟩ := open_int Tryz.underlying23 (hval 2 23 v2 rfl rfl) h2
  obtain ⟨m0, m1⟩ := bounds_u64 wm
  obtain ⟨k, rfl⟩ := Int.eq_ofNat_of_zero_le m0
  exact treePlays_main W A n c l t k hl hnc hcm hsl hv ht (by omega)
end Go.Proofs.YthnnnlbdbkdcaaaGreatDoor
