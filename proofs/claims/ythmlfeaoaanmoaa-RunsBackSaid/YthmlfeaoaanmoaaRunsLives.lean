/- The document's example of runs. -/
import Derived.Test.YthmlfeaoaanmoaaRunsCount
set_option linter.unusedVariables false
set_option linter.unusedSimpArgs false
namespace Go.Proofs.Ythmlfeaoaanmoaa
open Go.RowKit
open Sw
theorem stC_len (s : St) : (stC s).length = 3 := rfl
theorem ofR_ex : ofR [0, 0, 0, 0] = [⟨17, 3, 1⟩] := by rfl
/-- what Of answers, as a slice that can be read -/
theorem of_sl (w : World) (A : Option Addr) (n c : Nat) (l : List Int) (hl : l.length = n) (hnc : n ≤ c) (hc : c ≤ maxLen) (hsl : SlOf w 1 intE A l) :
    Calls Try.prog 31 #[.slice A n c] w fun e w' => ∃ v, e = .returned v ∧ SlV w' 3 stC v (ofR l) ∧ Below w.heap.size w w' :=
  (of_any w A n c l hl hnc hc hsl).mono fun e w' ⟨v, he, ho, hb⟩ => ⟨v, he, SlV.of_own ho stC_len (by omega), hb⟩
theorem refOf_sl (w : World) (A : Option Addr) (n c : Nat) (l : List Int) (hl : l.length = n) (hnc : n ≤ c) (hc : c ≤ maxLen) (hsl : SlOf w 1 intE A l) :
    Calls Try.prog 32 #[.slice A n c] w fun e w' => ∃ v, e = .returned v ∧ (goodB l = true → SlV w' 3 stC v (ofR l)) ∧ Below w.heap.size w w' :=
  (refOf_any w A n c l hl hnc hc hsl).mono fun e w' ⟨v, he, ho, hb⟩ => ⟨v, he, fun hg => SlV.of_own (ho hg) stC_len (by omega), hb⟩
set_option maxRecDepth 100000 in
set_option maxHeartbeats 4000000 in
theorem runs_lives (w : World) : Calls Try.prog 30 #[] w fun e w' => e = .returned (.bool true) ∧ Below w.heap.size w w' := by
  have hB : Blk (w.alloc (Obj.cells #[.int .i64 0, .int .i64 0, .int .i64 0, .int .i64 0] 3)) w.heap.size 3 #[.int .i64 0, .int .i64 0, .int .i64 0, .int .i64 0] := Blk.new _ _ _
  have hs : SlOf (w.alloc (Obj.cells #[.int .i64 0, .int .i64 0, .int .i64 0, .int .i64 0] 3)) 1 intE (some ⟨w.heap.size, 0, none⟩) [0, 0, 0, 0] := SlOf.of_blk1 (e := fun k => .int .i64 k) hB rfl
  have hb0 : Below w.heap.size w (w.alloc (Obj.cells #[.int .i64 0, .int .i64 0, .int .i64 0, .int .i64 0] 3)) := (Below.refl _ _).alloc (Nat.le_refl _) _
  have hof := of_sl _ _ 4 4 [0, 0, 0, 0] rfl (by omega) (by unfold maxLen; omega) hs
  rw [ofR_ex] at hof
  clear hB hs
  have HOF := Lib.hid hof; clear hof
  go_enter Try.func30, Try.ntmps30
  go_wp2_with fail
  refine HOF.out.mono ?_
  rintro e w1 ⟨v, rfl, ⟨A, c, rfl, hc1, hc2, hsl⟩, hb1⟩
  obtain ⟨b, off, rfl, hbb, hcs⟩ := hsl (by simp)
  have h0 := hcs 0 (by simp) 0 (by omega)
  have h1 := hcs 0 (by simp) 1 (by omega)
  have h2 := hcs 0 (by simp) 2 (by omega)
  simp [stC] at h0 h1 h2
  clear hcs hsl
  have hbw := hb0.trans (hb1.mono hb0.size)
  simp only [List.length_singleton] at hc1
  go_wp2_with fail
  go_ret
  exact ⟨rfl, hbw⟩
end Go.Proofs.Ythmlfeaoaanmoaa
