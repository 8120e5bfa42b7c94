/- The walk of StatusLines: its arguments opened. -/
import Derived.Test.YtpnkgldpmalklaaDoorStatusLinesMain
set_option linter.unusedVariables false
set_option linter.unusedSimpArgs false
namespace Go.Proofs.YtpnkgldpmalklaaDoor
open Go Go.ChangeShapes Go.WideShapes Go.ChangeAt Go.RowKit
open Go.ChangeMaps (open_string)
open Sw
set_option maxRecDepth 100000 in
/-- an argument that is a row -/
theorem open_rowR {H : Type} {enc : TypeId × Value → H} {w : World} {r : Reach} {b0 : Nat} {v : Value} {d : DataW H} {p : List MemPlace} (hv : Value.okWide Tryd.prog w r b0 23 v) (h : DataW.Trod enc Tryd.prog w 0 (fun _ => true) true 23 v d p) :
    ∃ (s : ByteArray) (a b : Int), v = .agg (rowC s a b) ∧ s.size ≤ maxLen := by
  obtain ⟨cs, rfl, hsz⟩ := okWide_struct Tryd.underlying23 hv
  obtain ⟨fuel, hf⟩ := h
  obtain ⟨hl, hfs⟩ := dec_fields Tryd.underlying23 (by kernel_rfl) (by kernel_rfl) hf
  have hl2 : cs.toList.length = 3 := hl
  obtain ⟨c0, c1, c2, hc⟩ : ∃ c0 c1 c2, cs.toList = [c0, c1, c2] := by
    match hcs : cs.toList, hl2 with
    | [c0, c1, c2], _ => exact ⟨c0, c1, c2, rfl⟩
  have hcc : cs = #[c0, c1, c2] := Array.ext' hc
  subst hcc
  obtain ⟨v0, n0, y0, e0, h0⟩ := hfs 0 _ rfl
  obtain ⟨v1, n1, y1, e1, h1⟩ := hfs 1 _ rfl
  obtain ⟨v2, n2, y2, e2, h2⟩ := hfs 2 _ rfl
  simp [Value.cells] at e0 e1 e2
  subst e0 e1 e2
  obtain ⟨s, es, _, hs⟩ := DataW.trod_string Tryd.underlying9 h0
  obtain ⟨a, ea, _, _⟩ := DataW.trod_int Tryd.underlying3 h1
  obtain ⟨b, eb, _, _⟩ := DataW.trod_int Tryd.underlying3 h2
  simp at es ea eb
  exact ⟨s, a, b, by rw [es, ea, eb], hs⟩
/-- an argument that is a clash -/
theorem open_clash {H : Type} {enc : TypeId × Value → H} {w : World} {r : Reach} {b0 : Nat} {v : Value} {d : DataW H} {p : List MemPlace} (hv : Value.okWide Tryd.prog w r b0 25 v) (h : DataW.Trod enc Tryd.prog w 0 (fun _ => true) true 25 v d p) :
    ∃ (s : ByteArray) (a : Int), v = .agg (clsC s a) ∧ s.size ≤ maxLen := by
  obtain ⟨cs, rfl, hsz⟩ := okWide_struct Tryd.underlying25 hv
  obtain ⟨fuel, hf⟩ := h
  obtain ⟨hl, hfs⟩ := dec_fields Tryd.underlying25 (by kernel_rfl) (by kernel_rfl) hf
  have hl2 : cs.toList.length = 2 := hl
  obtain ⟨c0, c1, hc⟩ : ∃ c0 c1, cs.toList = [c0, c1] := by
    match hcs : cs.toList, hl2 with
    | [c0, c1], _ => exact ⟨c0, c1, rfl⟩
  have hcc : cs = #[c0, c1] := Array.ext' hc
  subst hcc
  obtain ⟨v0, n0, y0, e0, h0⟩ := hfs 0 _ rfl
  obtain ⟨v1, n1, y1, e1, h1⟩ := hfs 1 _ rfl
  simp [Value.cells] at e0 e1
  subst e0 e1
  obtain ⟨s, es, _, hs⟩ := DataW.trod_string Tryd.underlying9 h0
  obtain ⟨a, ea, _, _⟩ := DataW.trod_int Tryd.underlying3 h1
  simp at es ea
  exact ⟨s, a, by rw [es, ea], hs⟩
set_option maxRecDepth 100000 in
theorem statusLines_walk : WalksS 3 Tryd.f3 := by
  intro H enc W hSH base args ds ps hval hA hlt hsz
  rw [Tryd.params3] at hA hval
  obtain ⟨v0, v1, v2, d0, d1, d2, p0, p1, p2, rfl, rfl, rfl, h0, h1, h2⟩ := trodAll_three hA
  obtain ⟨p, a, b, rfl, hp⟩ := open_rowR (hval 0 23 v0 rfl rfl) h0
  obtain ⟨t, rfl, rfl, rfl, ht⟩ := open_string Tryd.underlying9 (hval 1 9 v1 rfl rfl) h1
  obtain ⟨cp, cn, rfl, hcp⟩ := open_clash (hval 2 25 v2 rfl rfl) h2
  obtain ⟨m, hm⟩ : ∃ m, W.cell? ⟨0, 0, none⟩ = some (.int .i64 m) := Tryd.laysM143.s1_3 W hSH
  exact statusLines_main W m p a b t cp cn hp ht hcp hm
end Go.Proofs.YtpnkgldpmalklaaDoor
