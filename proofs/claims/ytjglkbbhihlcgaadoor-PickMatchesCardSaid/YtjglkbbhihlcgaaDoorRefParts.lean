/- The contract of the reference's parts of layer 42. -/
import Derived.Test.YtjglkbbhihlcgaaDoorRefPick
import Derived.Test.YtjglkbbhihlcgaaDoorPickRec
set_option linter.unusedVariables false
set_option linter.unusedSimpArgs false
namespace Sw
open Go Go.RowKit
theorem sfx_hit {α : Type} (f : List α → Bool) (l : List α) (n : Nat) (h : f (l.drop n) = true) : sfx f l = true :=
  (sfx_iff f l).2 ⟨l.take n, l.drop n, (List.take_append_drop n l).symm, h⟩
theorem sfx_miss {α : Type} (f : List α → Bool) (l : List α) (h : ∀ j, j ≤ l.length → f (l.drop j) = false) : sfx f l = false := by
  cases hs : sfx f l with
  | false => rfl
  | true =>
    obtain ⟨a, b, rfl, hb⟩ := (sfx_iff f l).1 hs
    have := h a.length (by simp)
    rw [List.drop_left, hb] at this
    cases this
end Sw
namespace Go.Proofs.YtjglkbbhihlcgaaDoor
open Go Go.RowKit
open Sw
theorem tail_at (w : World) (A : Option Addr) (N c n : Nat) (l : List ByteArray) (hl : l.length = N) (hc : N ≤ c) (hn : n ≤ N) (h : SlOf w 1 bE A l) :
    ∃ T, (∀ W, (Instr.slice 26 (.slice A N c) (some (.int .i64 (n : Int))) none none).run Tryd.prog W = .ok (.slice T (N - n) (c - n)) W) ∧ SlOf w 1 bE T (l.drop n) := by
  have hr := fun W => run_slice_l (P := Tryd.prog) (w := W) 26 A N c (by kernel_rfl) .i64 (n : Int) (by omega) (by omega)
  refine ⟨if c = n then A else A.map (·.add (n * 1)), fun W => ?_, ?_⟩
  · rw [hr]
    have hsz : (sizeOf (Tryd.prog.elem 26)).run Tryd.prog W = .ok 1 W := by
      simp only [sizeOf]
      kernel_rfl
    rw [hsz]
    simp only [Result.andThen, sliced, Int.toNat_natCast]
  · intro hpos
    rw [List.length_drop] at hpos
    obtain ⟨b, off, rfl, hlt, hcs⟩ := h (by omega)
    rw [if_neg (by omega)]
    have h2 : SlOf w 1 bE (some ⟨b, off, none⟩) l := fun _ => ⟨b, off, rfl, hlt, hcs⟩
    have h3 := h2.drop n
    obtain ⟨b', off', he, hlt', hcs'⟩ := h3 (by rw [List.length_drop]; omega)
    refine ⟨b', off', ?_, hlt', hcs'⟩
    rw [← he]
    show some (Addr.add ⟨b, off, none⟩ (n * 1)) = _
    rw [add_mk]
end Go.Proofs.YtjglkbbhihlcgaaDoor
