/- Arguments that are prints and nodes, opened. -/
import Derived.Test.YtpnkgldpmalklaaOpen
import Derived.Test.YtpnkgldpmalklaaNodePrint
set_option linter.unusedVariables false
namespace Go.Proofs.Ytpnkgldpmalklaa
open Go Go.ChangeShapes Go.WideShapes Go.ChangeAt Go.RowKit
open Sw
set_option maxRecDepth 100000 in
theorem dec_int {H : Type} {enc : TypeId × Value → H} {w : World} (fuel : Nat) (c : Value) (x : DataW H × List MemPlace) (h : DataW.trod enc Try.prog w 0 (fun _ => true) true fuel 3 [c] = some x) :
    ∃ k : Int, c = .int .i64 k ∧ (-9223372036854775808 ≤ k ∧ k ≤ 9223372036854775807) := by
  obtain ⟨k, ek, _, wk⟩ := DataW.trod_int Try.underlying3 h
  obtain ⟨k0, k1⟩ := bounds_i64 wk
  exact ⟨k, by simpa using ek, by omega, by omega⟩
theorem dec_u32 {H : Type} {enc : TypeId × Value → H} {w : World} (fuel : Nat) (c : Value) (x : DataW H × List MemPlace) (h : DataW.trod enc Try.prog w 0 (fun _ => true) true fuel 62 [c] = some x) :
    ∃ k : Int, c = .int .u32 k ∧ (0 ≤ k ∧ k < 4294967296) := by
  obtain ⟨k, ek, _, wk⟩ := DataW.trod_int Try.underlying62 h
  obtain ⟨k0, k1⟩ := bounds_u32 wk
  exact ⟨k, by simpa using ek, by omega, by omega⟩
theorem dec_str {H : Type} {enc : TypeId × Value → H} {w : World} (fuel : Nat) (c : Value) (x : DataW H × List MemPlace) (h : DataW.trod enc Try.prog w 0 (fun _ => true) true fuel 9 [c] = some x) :
    ∃ s : ByteArray, c = .string s ∧ s.size ≤ maxLen := by
  obtain ⟨s, hs, _, hl⟩ := DataW.trod_string Try.underlying9 h
  exact ⟨s, by simpa using hs, hl⟩
/-- a print's numbers are what their types hold -/
def _root_.Sw.Pr.In (p : Pr) : Prop := (-9223372036854775808 ≤ p.kind ∧ p.kind ≤ 9223372036854775807) ∧ (-9223372036854775808 ≤ p.mode ∧ p.mode ≤ 9223372036854775807) ∧ (0 ≤ p.time ∧ p.time < 4294967296) ∧ (-9223372036854775808 ≤ p.size ∧ p.size ≤ 9223372036854775807) ∧ (0 ≤ p.sum ∧ p.sum < 4294967296)
def _root_.Sw.Nd.In (n : Nd) : Prop := (-9223372036854775808 ≤ n.kind ∧ n.kind ≤ 9223372036854775807) ∧ (-9223372036854775808 ≤ n.mode ∧ n.mode ≤ 9223372036854775807) ∧ (0 ≤ n.time ∧ n.time < 4294967296) ∧ n.data.size ≤ maxLen
set_option maxRecDepth 100000 in
theorem dec_print {H : Type} {enc : TypeId × Value → H} {w : World} (fuel : Nat) (cs : List Value) (x : DataW H × List MemPlace) (h : DataW.trod enc Try.prog w 0 (fun _ => true) true fuel 64 cs = some x) :
    ∃ p : Pr, cs = p.c.toList ∧ p.In := by
  obtain ⟨hl, hff⟩ := dec_fields Try.underlying64 (by kernel_rfl) (by kernel_rfl) h
  match cs, hl with
  | [c0, c1, c2, c3, c4], _ =>
    obtain ⟨v0, n0, y0, e0, h0⟩ := hff 0 _ rfl
    obtain ⟨v1, n1, y1, e1, h1⟩ := hff 1 _ rfl
    obtain ⟨v2, n2, y2, e2, h2⟩ := hff 2 _ rfl
    obtain ⟨v3, n3, y3, e3, h3⟩ := hff 3 _ rfl
    obtain ⟨v4, n4, y4, e4, h4⟩ := hff 4 _ rfl
    simp at e0 e1 e2 e3 e4
    subst e0 e1 e2 e3 e4
    obtain ⟨k0, ek0, b0⟩ := dec_int _ _ _ h0
    obtain ⟨k1, ek1, b1⟩ := dec_int _ _ _ h1
    obtain ⟨k2, ek2, b2⟩ := dec_u32 _ _ _ h2
    obtain ⟨k3, ek3, b3⟩ := dec_int _ _ _ h3
    obtain ⟨k4, ek4, b4⟩ := dec_u32 _ _ _ h4
    subst ek0 ek1 ek2 ek3 ek4
    exact ⟨⟨k0, k1, k2, k3, k4⟩, rfl, b0, b1, b2, b3, b4⟩
set_option maxRecDepth 100000 in
theorem dec_node {H : Type} {enc : TypeId × Value → H} {w : World} (fuel : Nat) (cs : List Value) (x : DataW H × List MemPlace) (h : DataW.trod enc Try.prog w 0 (fun _ => true) true fuel 66 cs = some x) :
    ∃ n : Nd, cs = n.c.toList ∧ n.In := by
  obtain ⟨hl, hff⟩ := dec_fields Try.underlying66 (by kernel_rfl) (by kernel_rfl) h
  match cs, hl with
  | [c0, c1, c2, c3], _ =>
    obtain ⟨v0, n0, y0, e0, h0⟩ := hff 0 _ rfl
    obtain ⟨v1, n1, y1, e1, h1⟩ := hff 1 _ rfl
    obtain ⟨v2, n2, y2, e2, h2⟩ := hff 2 _ rfl
    obtain ⟨v3, n3, y3, e3, h3⟩ := hff 3 _ rfl
    simp at e0 e1 e2 e3
    subst e0 e1 e2 e3
    obtain ⟨k0, ek0, b0⟩ := dec_int _ _ _ h0
    obtain ⟨k1, ek1, b1⟩ := dec_int _ _ _ h1
    obtain ⟨k2, ek2, b2⟩ := dec_u32 _ _ _ h2
    obtain ⟨k3, ek3, b3⟩ := dec_str _ _ _ h3
    subst ek0 ek1 ek2 ek3
    exact ⟨⟨k0, k1, k2, k3⟩, rfl, b0, b1, b2, b3⟩
set_option maxRecDepth 100000 in
theorem open_print {H : Type} {enc : TypeId × Value → H} {w : World} {r : Reach} {b0 : Nat} {v : Value} {d : DataW H} {p : List MemPlace} (hv : Value.okWide Try.prog w r b0 64 v) (h : DataW.Trod enc Try.prog w 0 (fun _ => true) true 64 v d p) :
    ∃ x : Pr, v = .agg x.c ∧ x.In := by
  obtain ⟨cs, rfl, hsz⟩ := okWide_struct Try.underlying64 hv
  obtain ⟨fuel, hf⟩ := h
  obtain ⟨x, hx, hin⟩ := dec_print _ _ _ hf
  exact ⟨x, by congr 1; exact Array.ext' hx, hin⟩
set_option maxRecDepth 100000 in
theorem open_node {H : Type} {enc : TypeId × Value → H} {w : World} {r : Reach} {b0 : Nat} {v : Value} {d : DataW H} {p : List MemPlace} (hv : Value.okWide Try.prog w r b0 66 v) (h : DataW.Trod enc Try.prog w 0 (fun _ => true) true 66 v d p) :
    ∃ x : Nd, v = .agg x.c ∧ x.In := by
  obtain ⟨cs, rfl, hsz⟩ := okWide_struct Try.underlying66 hv
  obtain ⟨fuel, hf⟩ := h
  obtain ⟨x, hx, hin⟩ := dec_node _ _ _ hf
  exact ⟨x, by congr 1; exact Array.ext' hx, hin⟩
end Go.Proofs.Ytpnkgldpmalklaa
