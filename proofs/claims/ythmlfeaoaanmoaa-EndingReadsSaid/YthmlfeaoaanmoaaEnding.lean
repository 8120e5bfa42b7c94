/- Contracts of layer 21: Right, Read. -/
import Derived.Test.YthmlfeaoaanmoaaFieldNum
import Derived.Test.YthmlfeaoaanmoaaWriter
import Derived.Test.YthmlfeaoaanmoaaHeld
import Derived.Test.YthmlfeaoaanmoaaSlMore
set_option linter.unusedVariables false
set_option linter.unusedSimpArgs false
namespace Go.Proofs.Ythmlfeaoaanmoaa
open Go.RowKit
open Sw
/-- which ends may be -/
def rI (m s a r : Int) : Bool := decide (0 ≤ m ∧ m ≤ 65535 ∧ 0 ≤ s ∧ s ≤ 2147483647 ∧ 0 ≤ a ∧ a ≤ 2147483647 ∧ 0 ≤ r ∧ r ≤ 65535)
set_option maxRecDepth 100000 in
theorem endIn_any (n hi : Int) (w : World) :
    Calls Try.prog 83 #[.int .i64 n, .int .i64 hi] w fun e w' => e = .returned (.bool (decide (0 ≤ n ∧ n ≤ hi))) ∧ w = w' := by
  by_cases h1 : 0 ≤ n
  · by_cases h2 : n ≤ hi
    · rw [decide_eq_true (And.intro h1 h2)]
      go_enter Try.func83, Try.ntmps83
      go_wp2
      go_ret
      exact ⟨rfl, rfl⟩
    · rw [decide_eq_false (fun h => h2 h.2)]
      go_enter Try.func83, Try.ntmps83
      go_wp2
      go_ret
      exact ⟨rfl, rfl⟩
  · rw [decide_eq_false (fun h => h1 h.1)]
    go_enter Try.func83, Try.ntmps83
    go_wp2
    go_ret
    exact ⟨rfl, rfl⟩
set_option maxRecDepth 100000 in
set_option maxHeartbeats 2000000 in
theorem endRight_any (m s a r : Int) (w : World) :
    Calls Try.prog 69 #[.agg #[.int .i64 m, .int .i64 s, .int .i64 a, .int .i64 r]] w fun e w' => e = .returned (.bool (rI m s a r)) ∧ Below w.heap.size w w' := by
  have HB := Lib.hid ((Below.refl w.heap.size w).alloc (Nat.le_refl _) (.cells #[.int .i64 m, .int .i64 s, .int .i64 a, .int .i64 r] 84))
  have hI := fun (n hi : Int) (W : World) => endIn_any n hi W
  cases h1 : decide (0 ≤ m ∧ m ≤ 65535) with
  | false =>
    have hr : rI m s a r = false := by simp [rI] at h1 ⊢; omega
    rw [hr]
    have h := fun W => hI m 65535 W
    rw [h1] at h
    have H := Lib.hid h; clear h hI h1 hr
    go_enter Try.func69, Try.ntmps69
    go_wp2_with (go_at_call 83; refine (H.out _).mono ?_; rintro e w1 ⟨rfl, rfl⟩)
    go_ret
    exact ⟨rfl, HB.out⟩
  | true =>
    cases h2 : decide (0 ≤ s ∧ s ≤ 2147483647) with
    | false =>
      have hr : rI m s a r = false := by simp [rI] at h2 ⊢; omega
      rw [hr]
      have ha := fun W => hI m 65535 W
      have hb := fun W => hI s 2147483647 W
      rw [h1] at ha
      rw [h2] at hb
      have H := Lib.hid (And.intro ha hb); clear ha hb hI h1 h2 hr
      go_enter Try.func69, Try.ntmps69
      go_wp2_with fail
      refine (H.out.1 _).mono ?_; rintro e w1 ⟨rfl, rfl⟩
      go_wp2_with fail
      refine (H.out.2 _).mono ?_; rintro e w1 ⟨rfl, rfl⟩
      go_wp2_with fail
      go_ret
      exact ⟨rfl, HB.out⟩
    | true =>
      cases h3 : decide (0 ≤ a ∧ a ≤ 2147483647) with
      | false =>
        have hr : rI m s a r = false := by simp [rI] at h3 ⊢; omega
        rw [hr]
        have ha := fun W => hI m 65535 W
        have hb := fun W => hI s 2147483647 W
        have hc := fun W => hI a 2147483647 W
        rw [h1] at ha
        rw [h2] at hb
        rw [h3] at hc
        have H := Lib.hid (And.intro ha (And.intro hb hc)); clear ha hb hc hI h1 h2 h3 hr
        go_enter Try.func69, Try.ntmps69
        go_wp2_with fail
        refine (H.out.1 _).mono ?_; rintro e w1 ⟨rfl, rfl⟩
        go_wp2_with fail
        refine (H.out.2.1 _).mono ?_; rintro e w1 ⟨rfl, rfl⟩
        go_wp2_with fail
        refine (H.out.2.2 _).mono ?_; rintro e w1 ⟨rfl, rfl⟩
        go_wp2_with fail
        go_ret
        exact ⟨rfl, HB.out⟩
      | true =>
        obtain ⟨q, hq⟩ : ∃ q, decide (0 ≤ r ∧ r ≤ 65535) = q := ⟨_, rfl⟩
        have hr : rI m s a r = q := by
          simp only [decide_eq_true_eq] at h1 h2 h3
          rw [← hq, rI]
          simp only [decide_eq_decide]
          omega
        rw [hr]
        have ha := fun W => hI m 65535 W
        have hb := fun W => hI s 2147483647 W
        have hc := fun W => hI a 2147483647 W
        have hd := fun W => hI r 65535 W
        rw [h1] at ha
        rw [h2] at hb
        rw [h3] at hc
        rw [hq] at hd
        have H := Lib.hid (And.intro ha (And.intro hb (And.intro hc hd))); clear ha hb hc hd hI h1 h2 h3 hr hq
        go_enter Try.func69, Try.ntmps69
        go_wp2_with fail
        refine (H.out.1 _).mono ?_; rintro e w1 ⟨rfl, rfl⟩
        go_wp2_with fail
        refine (H.out.2.1 _).mono ?_; rintro e w1 ⟨rfl, rfl⟩
        go_wp2_with fail
        refine (H.out.2.2.1 _).mono ?_; rintro e w1 ⟨rfl, rfl⟩
        go_wp2_with fail
        refine (H.out.2.2.2 _).mono ?_; rintro e w1 ⟨rfl, rfl⟩
        go_wp2_with fail
        go_ret
        exact ⟨rfl, HB.out⟩
/-- 'num' of Read: a number of the reader, as an int -/
theorem endNum_any (w : World) (gp g : Nat) (s : ByteArray) (p : Nat) (bad : Bool) (n : Int) (hs : s.size ≤ maxLen) (hp : p ≤ s.size) (h : Rdr w g s p bad) (hg : Blk w gp 109 #[.pointer (some ⟨g, 0, none⟩)]) (v : Int) (hv : IntKind.i64.wrap (rdNum s p bad n : Int) = v) :
    Calls Try.prog 66 #[.int .i64 n, .pointer (some ⟨gp, 0, none⟩)] w fun e w' => e = .returned (.int .i64 v) ∧ Rdr w' g s (rdAt s p bad (wd n)) (rdBad s p bad (wd n)) ∧ w.grownBy w' (some g) := by
  have hn := rdNum_any w g s p bad n hs hp h
  have HN := Lib.hid hn; clear hn
  have c0 := hg.cell 0
  simp at c0
  go_enter Try.func66, Try.ntmps66
  go_wp2_with fail
  refine HN.out.mono ?_
  rintro e w1 ⟨rfl, h1, h2⟩
  have HF := Lib.hid (And.intro h1 h2); clear h1 h2
  go_wp2_with fail
  go_ret
  exact ⟨rfl, HF.out.1, HF.out.2⟩
end Go.Proofs.Ythmlfeaoaanmoaa
