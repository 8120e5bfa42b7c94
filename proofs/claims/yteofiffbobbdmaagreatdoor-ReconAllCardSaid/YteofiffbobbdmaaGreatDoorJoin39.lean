/- Several texts, joined for the limit of sixty files; each one opens with its own comment. -/
import Derived.Test.YteofiffbobbdmaaGreatDoorJoin1
import Derived.Test.YteofiffbobbdmaaGreatDoorJoin17
import Derived.Test.YteofiffbobbdmaaGreatDoorJoin38
/- The walk of ReconAll in the statement's form. -/
set_option linter.unusedVariables false
set_option linter.unusedSimpArgs false
namespace Go.Proofs.YteofiffbobbdmaaGreatDoor
open Go Go.ChangeShapes Go.WideShapes Go.ChangeAt Go.RowKit
open Sw
set_option maxRecDepth 100000 in
theorem reconAll_walk : Walks 5 Tryz.f5 := by
  intro H enc W base args ds ps hval hA hlt hsz
  rw [Tryz.params5] at hA hval
  obtain ⟨v0, v1, v2, d0, d1, d2, p0, p1, p2, rfl, rfl, rfl, h0, h1, h2⟩ := trodAll_three hA
  obtain ⟨u1, u2, l1, l2, rfl, s1, s2, i1, i2⟩ := open_base (hval 0 24 v0 rfl rfl) h0
  obtain ⟨w1, w2, xs, ys, rfl, g1, g2, j1, j2⟩ := open_items2 (hval 1 57 v1 rfl rfl) h1
  obtain ⟨m, rfl, rfl, rfl, wm⟩ := open_int Tryz.underlying47 (hval 2 47 v2 rfl rfl) h2
  obtain ⟨m0, m1⟩ := bounds_u64 wm
  obtain ⟨k, rfl⟩ := Int.eq_ofNat_of_zero_le m0
  exact reconAll_main W u1 u2 l1 l2 s1 s2 (fun m hm => (i1 m hm).2.2.2.1) (fun m hm => (i2 m hm).2.2.2.1) w1 w2 xs ys g1 g2 (fun x hx => j1 x hx) (fun x hx => j2 x hx) k (by omega)
end Go.Proofs.YteofiffbobbdmaaGreatDoor
