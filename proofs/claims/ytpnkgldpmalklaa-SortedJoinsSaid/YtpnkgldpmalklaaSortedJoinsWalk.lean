/- The walk of SortedJoins in the statement's form. -/
import Derived.Test.YtpnkgldpmalklaaLift
import Derived.Test.YtpnkgldpmalklaaSortedJoinsMain
set_option linter.unusedVariables false
set_option linter.unusedSimpArgs false
namespace Go.Proofs.Ytpnkgldpmalklaa
open Go Go.ChangeShapes Go.WideShapes Go.ChangeAt Go.RowKit Go.Shelf
open Sw
set_option maxRecDepth 100000 in
theorem dec_e15j {H : Type} {enc : TypeId × Value → H} {w : World} (fuel : Nat) (cs : List Value) (x : DataW H × List MemPlace) (h : DataW.trod enc Try.prog w 0 (fun _ => true) true fuel 40 cs = some x) :
    ∃ t : EnS, cs = eCIS t ∧ t.2.size ≤ maxLen := by
  obtain ⟨hl, hf⟩ := dec_fields Try.underlying40 (by kernel_rfl) (by kernel_rfl) h
  match cs, hl with
  | [c1, c2], _ =>
    obtain ⟨v1, n1, y1, e1, h1⟩ := hf 0 _ rfl
    obtain ⟨v2, n2, y2, e2, h2⟩ := hf 1 _ rfl
    simp at e1 e2
    subst e1 e2
    obtain ⟨m, em, _, wm⟩ := DataW.trod_int Try.underlying3 h1
    obtain ⟨q, eq, _, wq⟩ := DataW.trod_string Try.underlying9 h2
    simp at em eq
    subst em eq
    exact ⟨(m, q), rfl, wq⟩
set_option maxRecDepth 100000 in
theorem sortedJoins_walk : Walks 5 Try.f5 := by
  intro H enc W base args ds ps hval hA hlt hsz
  rw [Try.params5] at hA hval
  obtain ⟨v0, v1, v2, d0, d1, d2, p0, p1, p2, rfl, rfl, rfl, h0, h1, h2⟩ := trodAll_three hA
  obtain ⟨A1, n1, c1, l1, rfl, hnc1, hcm1, hl1, hsl1, hv1, _⟩ := open_slice_dec (size := 2) eCIS (fun e : EnS => e.2.size ≤ maxLen) Try.underlying28 (by kernel_rfl) (by omega) dec_e15j (hval 0 28 v0 rfl rfl) h0
  obtain ⟨A2, n2, c2, l2, rfl, hnc2, hcm2, hl2, hsl2, hv2, _⟩ := open_slice_dec (size := 2) eCIS (fun e : EnS => e.2.size ≤ maxLen) Try.underlying28 (by kernel_rfl) (by omega) dec_e15j (hval 1 28 v1 rfl rfl) h1
  obtain ⟨a, rfl, rfl, rfl, wa⟩ := open_int Try.underlying3 (hval 2 3 v2 rfl rfl) h2
  exact sortedJoins_main W A1 A2 n1 c1 n2 c2 l1 l2 a hl1 hl2 hnc1 hnc2 hcm1 hcm2 hsl1 hsl2 hv1 hv2
end Go.Proofs.Ytpnkgldpmalklaa
