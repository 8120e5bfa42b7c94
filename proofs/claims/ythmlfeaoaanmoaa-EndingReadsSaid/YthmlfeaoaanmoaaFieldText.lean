/- Contracts of field.Reader.Text, Skip, Num and of the reference's. -/
import Derived.Test.YthmlfeaoaanmoaaFieldReader
set_option linter.unusedVariables false
namespace Go.Proofs.Ythmlfeaoaanmoaa
open Go.RowKit
open Sw
/-- may n bytes be read? -/
def canRead (s : ByteArray) (p : Nat) (bad : Bool) (n : Int) : Bool := !bad && decide (0 ≤ n) && decide (n ≤ (s.size : Int) - p)
def rdText (s : ByteArray) (p : Nat) (bad : Bool) (n : Int) : ByteArray := if canRead s p bad n then s.extract p (p + n.toNat) else ⟨#[]⟩
def rdAt (s : ByteArray) (p : Nat) (bad : Bool) (n : Int) : Nat := if canRead s p bad n then p + n.toNat else p
def rdBad (s : ByteArray) (p : Nat) (bad : Bool) (n : Int) : Bool := !canRead s p bad n
theorem rdText_nil (w : World) (n : Int) : Calls Try.prog 82 #[.pointer none, .int .i64 n] w fun e w' => e = .returned (.string ⟨#[]⟩) ∧ w = w' := by
  go_enter Try.func82, Try.ntmps82
  go_wp2_with (go_at_call 68; refine (fine_nil _).mono ?_; rintro e w' ⟨rfl, rfl⟩)
  go_ret
  exact ⟨rfl, rfl⟩
set_option maxHeartbeats 400000 in
theorem rdText_any (w : World) (g : Nat) (s : ByteArray) (p : Nat) (bad : Bool) (n : Int) (hs : s.size ≤ maxLen) (hp : p ≤ s.size) (h : Rdr w g s p bad) :
    Calls Try.prog 82 #[.pointer (some ⟨g, 0, none⟩), .int .i64 n] w fun e w' => e = .returned (.string (rdText s p bad n)) ∧ Rdr w' g s (rdAt s p bad n) (rdBad s p bad n) ∧ w.grownBy w' (some g) := by
  unfold maxLen at hs
  have c0 := h.c0
  have c1 := h.c1
  have c2 := h.c2
  have hf := Blk.frozen h
  cases bad with
  | true =>
    have hfin : rdText s p true n = ⟨#[]⟩ ∧ rdAt s p true n = p ∧ rdBad s p true n = true := by simp [rdText, rdAt, rdBad, canRead]
    have HF := Lib.hid hfin; clear hfin
    go_enter Try.func82, Try.ntmps82
    go_wp2_with (go_at_call 68; refine (fine_any _ g s p true h).mono ?_; rintro e w' ⟨rfl, rfl⟩)
    go_ret
    rw [HF.out.1, HF.out.2.1, HF.out.2.2]
    exact ⟨rfl, h, grown_refl _ _⟩
  | false =>
    by_cases hn : 0 ≤ n
    · obtain ⟨m, rfl⟩ := Int.eq_ofNat_of_zero_le hn
      by_cases hm : m ≤ s.size - p
      · have hfin : rdText s p false m = s.extract p (p + m) ∧ rdAt s p false m = p + m ∧ rdBad s p false m = false := by
          have : canRead s p false m = true := by simp [canRead]; omega
          simp [rdText, rdAt, rdBad, this]
        have HF := Lib.hid hfin; clear hfin
        have hlt : ((s.size : Int) - p < m) = False := by simp; omega
        go_enter Try.func82, Try.ntmps82
        go_wp2_with (first | (go_at_call 68; refine (fine_any _ g s p false h).mono ?_; rintro e w' ⟨rfl, rfl⟩) | (go_at_call 70; refine (left_any _ g s p false hs hp h).mono ?_; rintro e w' ⟨rfl, nq, rfl⟩))
        go_quiet (fail)
        go_wp2
        go_ret
        rw [HF.out.1, HF.out.2.1, HF.out.2.2]
        exact ⟨rfl, Blk.drewN (Blk.put (Blk.drewN h _) 1 _) _, grown_drewN (grown_put (grown_drewN (grown_refl _ _) _) 1 _) _⟩
      · have hfin : rdText s p false m = ⟨#[]⟩ ∧ rdAt s p false m = p ∧ rdBad s p false m = true := by
          have : canRead s p false m = false := by simp [canRead]; omega
          simp [rdText, rdAt, rdBad, this]
        have HF := Lib.hid hfin; clear hfin
        have hlt : ((s.size : Int) - p < m) = True := by simp; omega
        go_enter Try.func82, Try.ntmps82
        go_wp2_with (first | (go_at_call 68; refine (fine_any _ g s p false h).mono ?_; rintro e w' ⟨rfl, rfl⟩) | (go_at_call 70; refine (left_any _ g s p false hs hp h).mono ?_; rintro e w' ⟨rfl, nq, rfl⟩))
        go_ret
        rw [HF.out.1, HF.out.2.1, HF.out.2.2]
        exact ⟨rfl, Blk.put (Blk.drewN h _) 2 _, grown_put (grown_drewN (grown_refl _ _) _) 2 _⟩
    · have hfin : rdText s p false n = ⟨#[]⟩ ∧ rdAt s p false n = p ∧ rdBad s p false n = true := by
        have : canRead s p false n = false := by simp [canRead]; omega
        simp [rdText, rdAt, rdBad, this]
      have HF := Lib.hid hfin; clear hfin
      have hn' : n < 0 := by omega
      go_enter Try.func82, Try.ntmps82
      go_wp2_with (first | (go_at_call 68; refine (fine_any _ g s p false h).mono ?_; rintro e w' ⟨rfl, rfl⟩) | (go_at_call 70; refine (left_any _ g s p false hs hp h).mono ?_; rintro e w' ⟨rfl, nq, rfl⟩))
      go_ret
      rw [HF.out.1, HF.out.2.1, HF.out.2.2]
      exact ⟨rfl, Blk.put h 2 _, grown_put (grown_refl _ _) 2 _⟩
end Go.Proofs.Ythmlfeaoaanmoaa
