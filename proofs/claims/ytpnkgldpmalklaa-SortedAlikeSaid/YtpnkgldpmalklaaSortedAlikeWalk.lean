/- The walk of SortedAlike in the statement's form. -/
import Derived.Test.YtpnkgldpmalklaaLift
import Derived.Test.YtpnkgldpmalklaaSortedAlikeMain
set_option linter.unusedVariables false
set_option linter.unusedSimpArgs false
namespace Go.Proofs.Ytpnkgldpmalklaa
open Go Go.ChangeShapes Go.WideShapes Go.ChangeAt Go.RowKit Go.Shelf
open Sw
set_option maxRecDepth 100000 in
theorem dec_e15 {H : Type} {enc : TypeId × Value → H} {w : World} (fuel : Nat) (cs : List Value) (x : DataW H × List MemPlace) (h : DataW.trod enc Try.prog w 0 (fun _ => true) true fuel 40 cs = some x) :
    ∃ t : EnS, cs = eCIS t ∧ t.2.size ≤ maxLen := by
  obtain ⟨hl, hf⟩ := dec_fields Try.underlying40 (by kernel_rfl) (by kernel_rfl) h
  match cs, hl with
  | [c1, c2], _ =>
    obtain ⟨v1, n1, y1, e1, h1⟩ := hf 0 _ rfl
    obtain ⟨v2, n2, y2, e2, h2⟩ := hf 1 _ rfl
    simp at e1 e2
    subst e1 e2
    obtain ⟨m, em, _, wm⟩ := DataW.trod_int Try.underlying3 h1
    obtain ⟨q, eq, _, wq⟩ := DataW.trod_string Try.underlying9 h2
    simp at em eq
    subst em eq
    exact ⟨(m, q), rfl, wq⟩
set_option maxRecDepth 100000 in
theorem sortedAlike_walk : Walks 4 Try.f4 := by
  intro H enc W base args ds ps hval hA hlt hsz
  rw [Try.params4] at hA hval
  obtain ⟨v0, d0, rfl, rfl, h0⟩ := trodAll_one hA
  obtain ⟨A, n, c, l, rfl, hnc, hcm, hl, hsl, hv, _⟩ := open_slice_dec (size := 2) eCIS (fun e : EnS => e.2.size ≤ maxLen) Try.underlying28 (by kernel_rfl) (by omega) dec_e15 (hval 0 28 v0 rfl rfl) h0
  exact sortedAlike_main W A n c l hl hnc hcm hsl hv
end Go.Proofs.Ytpnkgldpmalklaa
