/- Several texts, joined for the limit of sixty files; each one opens with its own comment. -/
import Derived.Test.YteofiffbobbdmaaGreatDoorJoin1
import Derived.Test.YteofiffbobbdmaaGreatDoorJoin17
import Derived.Test.YteofiffbobbdmaaGreatDoorJoin39
/- The walk of DetectFinds in the statement's form. -/
set_option linter.unusedVariables false
set_option linter.unusedSimpArgs false
namespace Go.Proofs.YteofiffbobbdmaaGreatDoor
open Go Go.ChangeShapes Go.WideShapes Go.ChangeAt Go.RowKit
open Sw
set_option maxRecDepth 100000 in
theorem detectFinds_walk : Walks 3 Tryz.f3 := by
  intro H enc W base args ds ps hval hA hlt hsz
  rw [Tryz.params3] at hA hval
  obtain ⟨v0, v1, v2, d0, d1, d2, p0, p1, p2, rfl, rfl, rfl, h0, h1, h2⟩ := trodAll_three hA
  obtain ⟨u1, u2, l1, l2, rfl, s1, s2, i1, i2⟩ := open_base (hval 0 24 v0 rfl rfl) h0
  obtain ⟨A, n, c, xs, rfl, hnc, hcm, hl, hsl, hv, _⟩ := open_slice_dec (size := 5) eCSN NEIn Tryz.underlying25 (by kernel_rfl) (by omega) dec_item (hval 1 25 v1 rfl rfl) h1
  obtain ⟨A', n', c', ys, rfl, hnc', hcm', hl', hsl', hv', _⟩ := open_slice_dec (size := 5) eCSN NEIn Tryz.underlying25 (by kernel_rfl) (by omega) dec_item (hval 2 25 v2 rfl rfl) h2
  subst hl hl'
  exact detectFinds_main W u1 u2 l1 l2 s1 s2 (fun m hm => (i1 m hm).2.2.2.1) (fun m hm => (i2 m hm).2.2.2.1) _ _ xs ys ⟨A, c, rfl, hnc, hcm, hsl⟩ ⟨A', c', rfl, hnc', hcm', hsl'⟩ (fun x hx => hv x hx) (fun x hx => hv' x hx)
end Go.Proofs.YteofiffbobbdmaaGreatDoor
