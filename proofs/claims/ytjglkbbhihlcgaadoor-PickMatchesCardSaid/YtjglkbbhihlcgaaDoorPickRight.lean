/- The contract of pick.Right. -/
import Derived.Test.YtjglkbbhihlcgaaDoorPickPart
set_option linter.unusedVariables false
set_option linter.unusedSimpArgs false
namespace Go.Proofs.YtjglkbbhihlcgaaDoor
open Go Go.RowKit
open Sw
/-- is a pattern right? -/
def pRt (s : ByteArray) : Bool := decide (s.size ≤ 200) && (decide ((spS s).length ≤ 12) && (!inS (spS s) ⟨#[]⟩ && !decide (0 ≤ Lib.indexByte s.data.toList 0)))
theorem splitSl_any (w : World) (s : ByteArray) (hs : s.size ≤ 100000) :
    Calls Tryd.prog 45 #[.string s, .string ⟨#[47]⟩] w (SlPost (spS s) w) := by
  have hlen := spS_len s
  refine (split_one w s hs).mono ?_
  rintro e w2 ⟨rfl, rfl⟩
  have hB := Blk.new w 9 ((spS s).map Value.string).toArray
  refine ⟨_, rfl, ⟨_, _, rfl, Nat.le_refl _, by unfold maxLen; omega, fun _ => ⟨w.heap.size, 0, rfl, hB.lt, fun i hi j hj => ?_⟩⟩, (Below.refl _ _).alloc (Nat.le_refl _) _⟩
  have hj0 : j = 0 := by omega
  subst hj0
  rw [hB.cell]
  simp [bE, List.getElem?_eq_getElem hi]
set_option maxRecDepth 100000 in
set_option maxHeartbeats 2000000 in
theorem pickRight_any (w : World) (s : ByteArray) (hs : s.size ≤ 100000) :
    Calls Tryd.prog 18 #[.string s] w fun e w' => e = .returned (.bool (pRt s)) ∧ Below w.heap.size w w' := by
  have hp : pRt s = (decide (s.size ≤ 200) && (decide ((spS s).length ≤ 12) && (!inS (spS s) ⟨#[]⟩ && !decide (0 ≤ Lib.indexByte s.data.toList 0)))) := rfl
  have HS := Lib.hid (splitSl_any w s hs)
  have hC := fun W v h => cont_any W v (spS s) ⟨#[]⟩ h
  have hX := fun W => Tryd.strings_Contains_one s 0 W
  generalize spS s = L at *
  generalize decide (0 ≤ Lib.indexByte s.data.toList 0) = z at *
  generalize inS L ⟨#[]⟩ = q at *
  have HC := Lib.hid hC; clear hC
  have HX := Lib.hid hX; clear hX
  obtain ⟨N, hN⟩ : ∃ N, L.length = N := ⟨_, rfl⟩
  rw [hN] at hp
  have HN := Lib.hid hN; clear hN
  have HP := Lib.hid hp; clear hp
  go_enter Tryd.func18, Tryd.ntmps18
  go_wp2_with fail
  refine HS.out.mono ?_
  rintro e w1 ⟨v, rfl, hsl, hb1⟩
  have HSL := Lib.hid hsl
  obtain ⟨A, c, rfl, hc, hm, _⟩ := hsl
  rw [HN.out] at hc HSL ⊢
  unfold maxLen at hm
  by_cases h1 : s.size ≤ 200
  · have HP2 := Lib.hid (show pRt s = (decide (N ≤ 12) && (!q && !z)) by rw [HP.out, decide_eq_true h1, Bool.true_and])
    have h1I : (s.size : Int) ≤ 200 := by omega
    clear h1
    by_cases h2 : N ≤ 12
    · have HP3 := Lib.hid (show pRt s = (!q && !z) by rw [HP2.out, decide_eq_true h2, Bool.true_and])
      have h2I : (N : Int) ≤ 12 := by omega
      clear h2
      go_wp2_with fail
      refine (HC.out _ _ HSL.out).mono ?_
      rintro e w2 ⟨rfl, rfl⟩
      cases q with
      | true =>
        go_wp2_with fail
        go_ret
        exact ⟨by rw [HP3.out]; first | done | rfl, hb1⟩
      | false =>
        go_wp2_with fail
        refine (HX.out _).mono ?_
        rintro e w3 ⟨rfl, rfl⟩
        go_wp2_with fail
        go_ret
        exact ⟨by rw [HP3.out]; first | done | rfl, hb1⟩
    · have HP3 := Lib.hid (show pRt s = false by rw [HP2.out, decide_eq_false h2, Bool.false_and])
      have h2I : ¬ (N : Int) ≤ 12 := by omega
      clear h2
      go_wp2_with fail
      go_ret
      exact ⟨by rw [HP3.out]; first | done | rfl, hb1⟩
  · have HP2 := Lib.hid (show pRt s = false by rw [HP.out, decide_eq_false h1, Bool.false_and])
    have h1I : ¬ (s.size : Int) ≤ 200 := by omega
    clear h1
    go_wp2_with fail
    go_ret
    exact ⟨by rw [HP2.out]; first | done | rfl, hb1⟩
end Go.Proofs.YtjglkbbhihlcgaaDoor
