/- Several texts, joined for the limit of sixty files; each one opens with its own comment. -/
import Derived.Test.YtlogdionhgabdaaDoorJoin1
import Derived.Test.YtlogdionhgabdaaDoorJoin49
/- The walk of StatTallies in the statement's form. -/
set_option linter.unusedVariables false
set_option linter.unusedSimpArgs false
namespace Go.Proofs.YtlogdionhgabdaaDoor
open Go Go.ChangeShapes Go.WideShapes Go.ChangeAt Go.RowKit
open Sw
set_option maxRecDepth 100000 in
theorem dec_e39 {H : Type} {enc : TypeId × Value → H} {w : World} (fuel : Nat) (cs : List Value) (x : DataW H × List MemPlace) (h : DataW.trod enc Tryd.prog w 0 (fun _ => true) true fuel 29 cs = some x) :
    ∃ t : En, cs = eCII t ∧ True := by
  obtain ⟨hl, hf⟩ := dec_fields Tryd.underlying29 (by kernel_rfl) (by kernel_rfl) h
  match cs, hl with
  | [c1, c2], _ =>
    obtain ⟨v1, n1, y1, e1, h1⟩ := hf 0 _ rfl
    obtain ⟨v2, n2, y2, e2, h2⟩ := hf 1 _ rfl
    simp at e1 e2
    subst e1 e2
    obtain ⟨m, em, _, wm⟩ := DataW.trod_int Tryd.underlying3 h1
    obtain ⟨q, eq, _, wq⟩ := DataW.trod_int Tryd.underlying3 h2
    simp at em eq
    subst em eq
    exact ⟨(m, q), rfl, trivial⟩
set_option maxRecDepth 100000 in
theorem statTallies_walk : Walks 3 Tryd.f3 := by
  intro H enc W base args ds ps hval hA hlt hsz
  rw [Tryd.params3] at hA hval
  obtain ⟨v0, v1, v2, d0, d1, d2, p0, p1, p2, rfl, rfl, rfl, h0, h1, h2⟩ := trodAll_three hA
  obtain ⟨A, n, c, l, rfl, hnc, hcm, hl, hsl, hv, _⟩ := open_slice_dec (size := 2) eCII (fun _ => True) Tryd.underlying22 (by kernel_rfl) (by omega) dec_e39 (hval 0 22 v0 rfl rfl) h0
  obtain ⟨a, rfl, rfl, rfl, wa⟩ := open_int Tryd.underlying3 (hval 1 3 v1 rfl rfl) h1
  obtain ⟨m, rfl, rfl, rfl, wm⟩ := open_int Tryd.underlying23 (hval 2 23 v2 rfl rfl) h2
  obtain ⟨m0, m1⟩ := bounds_u64 wm
  exact statTallies_main W A n c l a m hl hnc hcm hsl m0 (by omega)
end Go.Proofs.YtlogdionhgabdaaDoor
