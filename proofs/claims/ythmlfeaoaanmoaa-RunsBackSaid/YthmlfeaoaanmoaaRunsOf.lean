/- The contract of runs.Of. -/
import Derived.Test.YthmlfeaoaanmoaaRunsPlain
import Derived.Test.YthmlfeaoaanmoaaSlMore
import Derived.Test.YthmlfeaoaanmoaaGrow
set_option linter.unusedVariables false
namespace Sw
open Go Go.RowKit
/-- the cells of steps -/
def stC (s : St) : List Value := [.int .i64 s.sym, .int .i64 s.bits, .int .i64 s.more]
def rowS (l : List St) : List Value := l.flatMap stC
theorem rowS_snoc (l : List St) (s : St) : rowS (l ++ [s]) = rowS l ++ stC s := by simp [rowS]
theorem rowS_length (l : List St) : (rowS l).length = l.length * 3 := by
  induction l with
  | nil => rfl
  | cons s l ih =>
    rw [show rowS (s :: l) = stC s ++ rowS l from rfl, List.length_append, ih]
    simp [stC]; omega
def ofR (l : List Int) : List St := if goodB l = true ∧ l.length ≤ 400 then ofL l else []
theorem ofGo_nil (f : Nat) (a : Int) : ofGo f [] a = [] := by cases f <;> simp [ofGo]
theorem SlOf.cut {w : World} {size : Nat} {α : Type} {E : α → List Value} {A : Option Addr} {l : List α} (h : SlOf w size E A l) (k c : Nat) (hc : l.length ≤ c) (hs : 0 < size) : SlOf w size E (if c = k then A else A.map (·.add (k * size))) (l.drop k) := by
  by_cases hk : c = k
  · subst hk
    rw [List.drop_of_length_le hc]
    exact SlOf.nil _ _ _ _
  · rw [if_neg hk]
    by_cases hl : 0 < l.length
    · obtain ⟨b, off, rfl, _, _⟩ := h hl
      have := h.drop k
      rw [Option.map_some, add_mk]
      exact this
    · have : l = [] := List.length_eq_zero_iff.1 (by omega)
      subst this
      simp
      exact SlOf.nil _ _ _ _
end Sw
namespace Go.Proofs.Ythmlfeaoaanmoaa
open Go.RowKit
open Sw
theorem info_step : (Try.prog.info? 56).map (fun i => (i.zero, i.size, i.bytes)) = some (some (.agg #[.int .i64 0, .int .i64 0, .int .i64 0]), 3, 24) := by kernel_rfl
def OfPost (l : List Int) (w : World) (e : Ending) (w' : World) : Prop := ∃ v, e = .returned v ∧ w'.ownsRow w.heap.size 56 3 v (ofR l).length (rowS (ofR l)) ∧ Below w.heap.size w w'
set_option maxRecDepth 100000 in
set_option maxHeartbeats 4000000 in
theorem of_bad (w : World) (A : Option Addr) (n c : Nat) (l : List Int) (hl : l.length = n) (hn : n ≤ maxLen) (hsl : SlOf w 1 intE A l) (hbad : ¬ (goodB l = true ∧ l.length ≤ 400)) :
    Calls Try.prog 31 #[.slice A n c] w (OfPost l w) := by
  have hfin : ∀ w' : World, Below w.heap.size w w' → OfPost l w (.returned (.slice none 0 0)) w' := fun w' h => ⟨_, rfl, by
    unfold ofR; rw [if_neg hbad]; exact ⟨rfl, .inl ⟨rfl, rfl⟩⟩, h⟩
  unfold maxLen at hn
  by_cases hlen : 400 < n
  · have HF := Lib.hid hfin; clear hfin
    clear hbad hsl hl
    go_enter Try.func31, Try.ntmps31
    go_wp2_with fail
    go_ret
    exact HF.out _ (Below.refl _ _)
  · have hb2 : ¬ goodB l = true := fun h => hbad ⟨h, by omega⟩
    have HL := Lib.hid hl
    clear hl hbad
    obtain ⟨j, hj, hjb, hlow⟩ : ∃ j, ∃ hj : j < l.length, ¬ (0 ≤ l[j] ∧ l[j] ≤ 15) ∧ ∀ i (hi : i < j), 0 ≤ l[i]'(by omega) ∧ l[i]'(by omega) ≤ 15 := firstBad l hb2
    have HF := Lib.hid hfin; clear hfin
    have HS := Lib.hid hsl; clear hsl
    have hjn : j < n := by have := HL.out; omega
    have HLOW := Lib.hid hlow; clear hlow
    clear hb2
    go_enter Try.func31, Try.ntmps31
    go_wp2_with fail
    go_loop [4, 13] (fun _ t => ∃ k : Nat, k ≤ j ∧ t = .int .i64 k) (fun _ t => n - (intOf t).toNat)
    case atStart => exact ⟨0, Nat.zero_le _, rfl⟩
    case round =>
      obtain ⟨k, hk, rfl⟩ := hrel
      have hkl : k < l.length := by have := HL.out; omega
      obtain ⟨b, off, rfl, hb, hcs⟩ := HS.out (by omega)
      have hc0 := hcs k hkl 0 (by omega)
      simp [intE] at hc0
      clear hcs
      by_cases hlt : k < j
      · have ⟨h0, h1⟩ := HLOW.out k hlt
        have h0' : ¬ l[k] < 0 := by omega
        generalize l[k] = x at *
        go_wp2_with fail
        exact ⟨⟨k + 1, by omega, by go_num⟩, by simp [intOf]; omega⟩
      · obtain rfl : k = j := by omega
        generalize l[k] = x at *
        by_cases hx : x < 0
        · clear hjb
          go_wp2_with fail
          go_ret
          exact HF.out _ (Below.refl _ _)
        · have h15 : 15 < x := by omega
          clear hjb
          go_wp2_with fail
          go_ret
          exact HF.out _ (Below.refl _ _)
end Go.Proofs.Ythmlfeaoaanmoaa
