/- The walk of DevSure in the statement's form. -/
import Derived.Test.YtlogdionhgabdaaLift
import Derived.Test.YtlogdionhgabdaaDevSureMain
set_option linter.unusedVariables false
set_option linter.unusedSimpArgs false
namespace Go.Proofs.Ytlogdionhgabdaa
open Go Go.ChangeShapes Go.WideShapes Go.ChangeAt Go.RowKit Go.Shelf
open Sw
set_option maxRecDepth 100000 in
theorem devSure_walk : Walks 5 Try.f5 := by
  intro H enc W base args ds ps hval hA hlt hsz
  rw [Try.params5] at hA hval
  obtain ⟨v0, v1, v2, d0, d1, d2, p0, p1, p2, rfl, rfl, rfl, h0, h1, h2⟩ := trodAll_three hA
  obtain ⟨A, n, c, l, rfl, hnc, hcm, hl, hsl, hv, _⟩ := open_slice_dec (size := 4) st17C (St17In W) Try.underlying22 (by kernel_rfl) (by omega) dec_st17 (hval 0 22 v0 rfl rfl) h0
  obtain ⟨A2, n2, c2, l2, rfl, hnc2, hcm2, hl2, hsl2, hv2, _⟩ := open_slice_dec (size := 4) st17C (St17In W) Try.underlying22 (by kernel_rfl) (by omega) dec_st17 (hval 1 22 v1 rfl rfl) h1
  obtain ⟨A3, n3, c3, l3, rfl, hnc3, hcm3, hl3, hsl3, hv3, _⟩ := open_slice_dec (size := 1) intE inI Try.underlying28 (by kernel_rfl) (by omega) dec_int (hval 2 28 v2 rfl rfl) h2
  exact devSure_main W A n c l A2 n2 c2 l2 _ l3 hl hnc hcm hsl hv hl2 hnc2 hcm2 hsl2 hv2 ⟨A3, c3, by rw [hl3], by rw [hl3]; exact hnc3, hcm3, hsl3⟩ hv3
end Go.Proofs.Ytlogdionhgabdaa
