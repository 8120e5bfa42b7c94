/- The walk of DevPlays in the statement's form. -/
import Derived.Test.YtlogdionhgabdaaLift
import Derived.Test.YtlogdionhgabdaaDevPlaysMain
set_option linter.unusedVariables false
set_option linter.unusedSimpArgs false
namespace Go.Proofs.Ytlogdionhgabdaa
open Go Go.ChangeShapes Go.WideShapes Go.ChangeAt Go.RowKit Go.Shelf
open Sw
set_option maxRecDepth 100000 in
theorem devPlays_walk : Walks 4 Try.f4 := by
  intro H enc W base args ds ps hval hA hlt hsz
  rw [Try.params4] at hA hval
  obtain ⟨v0, v1, d0, d1, p0, p1, rfl, rfl, rfl, h0, h1⟩ := trodAll_two hA
  obtain ⟨a, rfl, rfl, rfl, wa⟩ := open_int Try.underlying3 (hval 0 3 v0 rfl rfl) h0
  obtain ⟨A, n, c, l, rfl, hnc, hcm, hl, hsl, hv, _⟩ := open_slice_dec (size := 4) st17C (St17In W) Try.underlying22 (by kernel_rfl) (by omega) dec_st17 (hval 1 22 v1 rfl rfl) h1
  exact devPlays_main W A n c l a hl hnc hcm hsl hv
end Go.Proofs.Ytlogdionhgabdaa
