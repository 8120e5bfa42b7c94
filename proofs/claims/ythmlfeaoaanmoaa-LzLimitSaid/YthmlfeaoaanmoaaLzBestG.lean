/- lz's best at any place of a text. -/
import Derived.Test.YthmlfeaoaanmoaaLzBest
set_option linter.unusedVariables false
set_option linter.unusedSimpArgs false
namespace Go.Proofs.Ythmlfeaoaanmoaa
open Go Go.RowKit Go.Shelf Go.Maps
open Sw
theorem best_all (base g b : Nat) (s : ByteArray) (dv : Int) (m a : Nat) (av : Value) (D : DataW Unit) (ah : List Int) (w : World) (h : Fd w base g b s (.int .i64 dv) m av D ah) (hs : s.size ≤ 900000) (h0 : a < s.size) (hma : m ≤ a) (hd1 : 1 ≤ dv) (hd2 : dv ≤ 1024) :
    Calls Try.prog 62 #[.pointer (some ⟨g, 0, none⟩), .int .i64 a] w fun e w' => (∃ L B : Nat, e = .returned (.agg #[.int .u8 0, .int .i64 L, .int .i64 B]) ∧ CpOk s a L B ∧ (L = 0 ∨ 3 ≤ L) ∧
      (a + 2 < s.size → 1 ≤ m → s[m - 1]? = s[a]? → s[m]? = s[a + 1]? → s[m + 1]? = s[a + 2]? → a - (m - 1) ≤ 32768 → lg s (a - (m - 1)) a 258 ≤ L ∨ lg s (a - (m - 1)) a 258 < 3)) ∧ Below w.heap.size w w' := by
  by_cases h2 : a + 2 < s.size
  · have h1 : a + 1 < s.size := by omega
    obtain ⟨c, hc, _⟩ := look_three h.own s[a] s[a + 1] s[a + 2]
    refine (best_any base g b s dv m a av D ah w h (by omega) h0 h1 h2 hma hd1 hd2 c hc).mono ?_
    rintro e w' ⟨⟨L, B, rfl, p1, p2, p3⟩, hb⟩
    refine ⟨⟨L, B, rfl, p1, p2, ?_⟩, hb⟩
    intro _ hm e0 e1 e2 hfar
    obtain ⟨q1, q2⟩ := h.ok.last hm (by omega)
    have x0 : s[m - 1]'(by omega) = s[a] := by
      rw [getElem?_pos s (m - 1) (by omega), getElem?_pos s a h0] at e0; exact Option.some.inj e0
    have x1 : s[m]'(by omega) = s[a + 1] := by
      rw [getElem?_pos s m (by omega), getElem?_pos s (a + 1) h1] at e1; exact Option.some.inj e1
    have x2 : s[m + 1]'(by omega) = s[a + 2] := by
      rw [getElem?_pos s (m + 1) (by omega), getElem?_pos s (a + 2) h2] at e2; exact Option.some.inj e2
    rw [x0, x1, x2] at q1 q2
    rw [hc] at q2
    injection q2 with q2
    injection q2 with _ q2
    have hp := p3 q1 (by omega)
    rw [show ((a : Int) - c).toNat = a - (m - 1) by omega] at hp
    exact hp
  · refine (best_short g a s w (by omega) (by omega) (by omega) (by omega) (by have := h.blk.cell 0; simpa using this)).mono ?_
    rintro e w' ⟨rfl, hb⟩
    exact ⟨⟨0, 0, rfl, .inl ⟨rfl, rfl⟩, .inl rfl, fun h => absurd h h2⟩, hb⟩
end Go.Proofs.Ythmlfeaoaanmoaa
