/- Contracts of field.Reader and of the reference's reader R. -/
import Derived.Test.YthmlfeaoaanmoaaFieldGet
import Derived.Test.YthmlfeaoaanmoaaKit
set_option linter.unusedVariables false
namespace Go.Proofs.Ythmlfeaoaanmoaa
open Go.RowKit
open Sw
/-- a reader of field at block g: its text, its place, whether it is bad -/
def Rdr (w : World) (g : Nat) (s : ByteArray) (at' : Nat) (bad : Bool) : Prop := Blk w g 128 #[.string s, .int .i64 (at' : Int), .bool bad]
section
variable {w : World} {g : Nat} {s : ByteArray} {p : Nat} {bad : Bool}
theorem Rdr.c0 (h : Rdr w g s p bad) : w.cell? ⟨g, 0, none⟩ = some (.string s) := Blk.cell h 0
theorem Rdr.c1 (h : Rdr w g s p bad) : w.cell? ⟨g, 1, none⟩ = some (.int .i64 (p : Int)) := Blk.cell h 1
theorem Rdr.c2 (h : Rdr w g s p bad) : w.cell? ⟨g, 2, none⟩ = some (.bool bad) := Blk.cell h 2
end
theorem fine_any (w : World) (g : Nat) (s : ByteArray) (p : Nat) (bad : Bool) (h : Rdr w g s p bad) :
    Calls Try.prog 68 #[.pointer (some ⟨g, 0, none⟩)] w fun e w' => e = .returned (.bool (!bad)) ∧ w = w' := by
  have c2 := h.c2
  go_enter Try.func68, Try.ntmps68
  go_wp2
  go_ret
  exact ⟨rfl, rfl⟩
theorem fine_nil (w : World) : Calls Try.prog 68 #[.pointer none] w fun e w' => e = .returned (.bool false) ∧ w = w' := by
  go_enter Try.func68, Try.ntmps68
  go_wp2
  go_ret
  exact ⟨rfl, rfl⟩
theorem left_any (w : World) (g : Nat) (s : ByteArray) (p : Nat) (bad : Bool) (hs : s.size ≤ maxLen) (hp : p ≤ s.size) (h : Rdr w g s p bad) :
    Calls Try.prog 70 #[.pointer (some ⟨g, 0, none⟩)] w fun e w' => e = .returned (.int .i64 ((s.size : Int) - p)) ∧ ∃ n, w' = w.drewN n := by
  unfold maxLen at hs
  have c0 := h.c0
  have c1 := h.c1
  go_enter Try.func70, Try.ntmps70
  go_wp2_with fail
  go_quiet (fail)
  go_wp2
  go_ret
  exact ⟨rfl, _, rfl⟩
theorem left_nil (w : World) : Calls Try.prog 70 #[.pointer none] w fun e w' => e = .returned (.int .i64 0) ∧ w = w' := by
  go_enter Try.func70, Try.ntmps70
  go_wp2
  go_ret
  exact ⟨rfl, rfl⟩
end Go.Proofs.Ythmlfeaoaanmoaa
