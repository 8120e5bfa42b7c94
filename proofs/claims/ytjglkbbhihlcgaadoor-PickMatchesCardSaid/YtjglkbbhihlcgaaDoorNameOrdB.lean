/- Contracts of name.Order, name.Under, and of the reference's Before. -/
import Derived.Test.YtjglkbbhihlcgaaDoorNameOrd
set_option linter.unusedVariables false
set_option linter.unusedSimpArgs false
namespace Sw
/-- is a text among texts? -/
def inS (l : List ByteArray) (x : ByteArray) : Bool := l.any fun y => decide (y = x)
theorem inS_iff (l : List ByteArray) (x : ByteArray) : inS l x = true ↔ x ∈ l := by
  unfold inS
  rw [List.any_eq_true]
  constructor
  · rintro ⟨y, hy, h⟩
    have := of_decide_eq_true h
    subst this
    exact hy
  · exact fun h => ⟨x, h, decide_eq_true rfl⟩
theorem inS_step (l : List ByteArray) (x : ByteArray) (k : Nat) (h : k < l.length) : inS (l.take (k + 1)) x = (inS (l.take k) x || decide (l[k] = x)) := by
  unfold inS
  rw [List.take_succ_eq_append_getElem h, List.any_append]
  simp
end Sw
namespace Go.Proofs.YtjglkbbhihlcgaaDoor
open Go Go.RowKit
open Sw
open Go.Lib (compareBytes)
theorem strCmp_any (w : World) (x y : ByteArray) :
    Calls Tryd.prog 55 #[.string x, .string y] w fun e w' => e = .returned (.int .i64 (compareBytes x.data.toList y.data.toList)) ∧ w = w' :=
  (Tryd.strings_Compare x y w).mono fun e w' h => ⟨h.1, h.2.symm⟩
set_option maxRecDepth 100000 in
set_option maxHeartbeats 2000000 in
theorem order_any (w : World) (p q : ByteArray) (hp : p.size ≤ 100000) (hq : q.size ≤ 100000) :
    Calls Tryd.prog 36 #[.string p, .string q] w fun e w' => e = .returned (.int .i64 (ordS p q)) ∧ Below w.heap.size w w' := by
  have HP := Lib.hid (parts_any w p hp)
  have HQ := Lib.hid (fun W => parts_any W q hq)
  have ho : ordS p q = if (partsS p).length = 0 ∧ (partsS q).length = 0 then compareBytes p.data.toList q.data.toList else cL (partsS p) (partsS q) := rfl
  obtain ⟨N, hN⟩ : ∃ N, (partsS p).length = N := ⟨_, rfl⟩
  obtain ⟨M, hM⟩ : ∃ M, (partsS q).length = M := ⟨_, rfl⟩
  rw [hN, hM] at ho
  have hc1 := fun W => strCmp_any W p q
  have hc2 := fun W v1 v2 h1 h2 => slCmp_any W v1 v2 (partsS p) (partsS q) h1 h2
  generalize ordS p q = R at *
  generalize compareBytes p.data.toList q.data.toList = C at *
  generalize cL (partsS p) (partsS q) = D at *
  have HC1 := Lib.hid hc1; clear hc1
  have HC2 := Lib.hid hc2; clear hc2
  have HN := Lib.hid (And.intro hN hM); clear hN hM
  go_enter Tryd.func36, Tryd.ntmps36
  go_wp2_with fail
  refine HP.out.mono ?_
  rintro e w1 ⟨v1, rfl, s1, hb1⟩
  go_wp2_with fail
  refine (HQ.out _).mono ?_
  rintro e w2 ⟨v2, rfl, s2, hb2⟩
  have hbw := hb1.trans (hb2.mono hb1.size)
  have HS := Lib.hid (And.intro (s1.below hb2 (Nat.le_refl _)) s2)
  obtain ⟨A1, c1, rfl, hc1, hm1, _⟩ := s1
  obtain ⟨A2, c2, rfl, hc2, hm2, _⟩ := s2
  rw [HN.out.1] at hc1 HS ⊢
  rw [HN.out.2] at hc2 HS ⊢
  unfold maxLen at hm1 hm2
  by_cases h1 : N = 0
  · by_cases h2 : M = 0
    · rw [if_pos ⟨h1, h2⟩] at ho
      subst ho
      have n1 : ((N : Int) == 0) = true := by rw [beq_iff_eq]; omega
      have n2 : ((M : Int) == 0) = true := by rw [beq_iff_eq]; omega
      clear h1 h2
      go_wp2_with fail
      refine (HC1.out _).mono ?_
      rintro e w3 ⟨rfl, rfl⟩
      go_wp2_with fail
      go_ret
      exact ⟨rfl, hbw⟩
    · rw [if_neg (fun e => h2 e.2)] at ho
      subst ho
      have n1 : ((N : Int) == 0) = true := by rw [beq_iff_eq]; omega
      have n2 : ((M : Int) == 0) = false := by rw [beq_eq_false_iff_ne]; omega
      clear h1 h2
      go_wp2_with fail
      refine (HC2.out _ _ _ HS.out.1 HS.out.2).mono ?_
      rintro e w3 ⟨rfl, rfl⟩
      go_wp2_with fail
      go_ret
      exact ⟨rfl, hbw⟩
  · rw [if_neg (fun e => h1 e.1)] at ho
    subst ho
    have n1 : ((N : Int) == 0) = false := by rw [beq_eq_false_iff_ne]; omega
    clear h1
    go_wp2_with fail
    refine (HC2.out _ _ _ HS.out.1 HS.out.2).mono ?_
    rintro e w3 ⟨rfl, rfl⟩
    go_wp2_with fail
    go_ret
    exact ⟨rfl, hbw⟩
/-- slices.Contains at texts -/
theorem cont_any (w : World) (v : Value) (l : List ByteArray) (x : ByteArray) (h : SlV w 1 bE v l) :
    Calls Tryd.prog 46 #[v, .string x] w fun e w' => e = .returned (.bool (inS l x)) ∧ w = w' := by
  obtain ⟨A, c, rfl, hc, hm, hs⟩ := h
  by_cases h0 : l.length = 0
  · have hl : l = [] := List.length_eq_zero_iff.1 h0
    subst hl
    have hi : Calls Tryd.prog 63 #[.slice A 0 c, .string x] w fun e w' => e = .returned (.int .i64 (-1)) ∧ w = w' := by
      go_enter Tryd.func63, Tryd.ntmps63
      go_wp2_with fail
      go_loopw [4, 5, 8] (fun r _ iv wr => r = .int .i64 0 ∧ iv = .int .i64 0 ∧ w = wr) (fun _ _ _ _ => 0)
      case atStart => exact ⟨rfl, rfl, rfl⟩
      case round =>
        obtain ⟨rfl, rfl, rfl⟩ := hrel
        go_wp2_with fail
        go_ret
        exact ⟨rfl, rfl⟩
    have HI := Lib.hid hi; clear hi
    go_enter Tryd.func46, Tryd.ntmps46
    go_wp2_with fail
    refine HI.out.mono ?_
    rintro e w1 ⟨rfl, rfl⟩
    go_wp2_with fail
    go_ret
    exact ⟨by simp [inS], rfl⟩
  · obtain ⟨b, o, rfl, _, hcs⟩ := hs (by omega)
    refine (Tryd.slices_Contains_string b o l.length c l x w (Nat.le_refl _) (by unfold maxLen at hm; omega) (fun j hj => by
      have := hcs j hj 0 (by omega)
      simp [bE] at this
      rw [this, List.getD_eq_getElem?_getD, List.getElem?_eq_getElem hj]
      rfl)).mono ?_
    rintro e w' ⟨rfl, rfl⟩
    refine ⟨?_, rfl⟩
    rw [List.take_of_length_le (Nat.le_refl _)]
    have hiff := Go.Lib.containsS_iff l x
    have hiff2 := inS_iff l x
    congr 2
    cases hd : Go.Lib.containsS l x with
    | true => rw [hiff2.2 (hiff.1 hd)]
    | false =>
      cases hi : inS l x with
      | false => rfl
      | true => rw [hiff.2 (hiff2.1 hi)] at hd; cases hd
set_option maxRecDepth 100000 in
set_option maxHeartbeats 2000000 in
theorem under_any (w : World) (p q : ByteArray) (hq : q.size ≤ 90000) :
    Calls Tryd.prog 37 #[.string p, .string q] w fun e w' => e = .returned (.bool (inS (upsS q) p)) ∧ Below w.heap.size w w' := by
  have HU := Lib.hid (ups_any w q hq)
  have hC := fun W v h => cont_any W v (upsS q) p h
  generalize inS (upsS q) p = R at *
  have HC := Lib.hid hC; clear hC
  go_enter Tryd.func37, Tryd.ntmps37
  go_wp2_with fail
  refine HU.out.mono ?_
  rintro e w1 ⟨v, rfl, s, hb1⟩
  have HS := Lib.hid s; clear s
  go_wp2_with fail
  refine (HC.out _ _ HS.out).mono ?_
  rintro e w2 ⟨rfl, rfl⟩
  go_wp2_with fail
  go_ret
  exact ⟨rfl, hb1⟩
end Go.Proofs.YtjglkbbhihlcgaaDoor
