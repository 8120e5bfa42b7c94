/- Contracts of the reference of layer 6: the searches over all lengths. -/
import Derived.Test.YthdmajhhioiaoaaSymbolRefB
set_option linter.unusedVariables false
namespace Go.Proofs.Ythdmajhhioiaoaa
open Go.RowKit
open Sw
theorem signV_sg (x : Option (Nat × Nat × Int)) : signV x = .tuple #[.agg #[.int .i64 (sg x).1, .int .i64 (sg x).2.1, .int .i64 (sg x).2.2], .bool x.isSome] := by
  rcases x with _ | ⟨c, b, m⟩ <;> rfl
set_option maxRecDepth 100000 in
set_option maxHeartbeats 1000000 in
theorem refLongOf_any (w : World) (code more : Int) : Calls Try.prog 48 #[.int .i64 code, .int .i64 more] w fun e w' => e = .returned (numV (longOfS code more)) ∧ Below w.heap.size w w' := by
  go_enter Try.func48, Try.ntmps48
  go_wp2_with fail
  go_loopw [6, 7, 8] (fun t _ _ wr => ∃ k : Nat, k ≤ 256 ∧ t = .int .i64 ((k : Int) + 3) ∧ (∀ j : Nat, j < k → ¬ (((sg (longS ((j + 3 : Nat) : Int))).1 : Int) = code ∧ (sg (longS ((j + 3 : Nat) : Int))).2.2 = more)) ∧ Below w.heap.size w wr) (fun t _ _ _ => 260 - (intOf t).toNat)
  case atStart => exact ⟨0, Nat.zero_le _, rfl, fun j hj => by omega, Below.refl _ _⟩
  case round =>
    obtain ⟨k, hk, rfl, hno, hb⟩ := hrel
    by_cases hlt : k < 256
    · have hin := longOf_in k hlt
      have hrl := fun W => refLong_any W ((k : Int) + 3) (by omega) (by omega)
      have e3 : ((k + 3 : Nat) : Int) = (k : Int) + 3 := by omega
      rw [e3] at hin
      have HNO := Lib.hid hno; clear hno
      have hself : ∀ P : Nat × Nat × Int → Prop, P (sg (longS ((k + 3 : Nat) : Int))) → P (sg (longS ((k : Int) + 3))) := fun P h => by rw [← e3]; exact h
      have HSELF := Lib.hid hself; clear hself
      have hrl2 := fun W => (signV_sg (longS ((k : Int) + 3))) ▸ hrl W
      have HRL := Lib.hid hrl2; clear hrl2 hrl
      have HIN := Lib.hid hin; clear hin e3
      generalize hsg : sg (longS ((k : Int) + 3)) = x at *
      have HSG := Lib.hid hsg; clear hsg
      generalize (longS ((k : Int) + 3)).isSome = ok at *
      obtain ⟨c, b, m⟩ := x
      by_cases hc : (c : Int) = code
      · by_cases hm : m = more
        · have HOK := Lib.hid (show longOfS code more = some ((k : Int) + 3) by rw [← hc, ← hm]; exact HIN.out)
          have t1 : ((c : Int) == code) = true := by simp [hc]
          have t2 : (m == more) = true := by simp [hm]
          clear hc hm
          go_wp2_with (go_at_call 46; refine (HRL.out _).mono ?_; rintro e w1 ⟨rfl, hb1⟩)
          go_ret2
          rw [HOK.out]
          exact ⟨rfl, (hb.trans (hb1.mono hb.size)).alloc (Nat.le_trans hb.size hb1.size) _⟩
        · have t1 : ((c : Int) == code) = true := by simp [hc]
          have t2 : (m == more) = false := by simp [hm]
          have HNE := Lib.hid hm
          clear hc hm
          go_wp2_with (go_at_call 46; refine (HRL.out _).mono ?_; rintro e w1 ⟨rfl, hb1⟩)
          refine ⟨⟨k + 1, by omega, by go_num, fun j hj => ?_, (hb.trans (hb1.mono hb.size)).alloc (Nat.le_trans hb.size hb1.size) _⟩, by simp [intOf]; omega⟩
          by_cases hjk : j < k
          · exact HNO.out j hjk
          · obtain rfl : j = k := by omega
            intro hh
            exact HNE.out (HSELF.out (fun x => x.2.2 = more) hh.2)
      · have t1 : ((c : Int) == code) = false := by simp [hc]
        have HNE := Lib.hid hc
        clear hc
        go_wp2_with (go_at_call 46; refine (HRL.out _).mono ?_; rintro e w1 ⟨rfl, hb1⟩)
        refine ⟨⟨k + 1, by omega, by go_num, fun j hj => ?_, (hb.trans (hb1.mono hb.size)).alloc (Nat.le_trans hb.size hb1.size) _⟩, by simp [intOf]; omega⟩
        by_cases hjk : j < k
        · exact HNO.out j hjk
        · obtain rfl : j = k := by omega
          intro hh
          exact HNE.out (HSELF.out (fun x => (x.1 : Int) = code) hh.1)
    · obtain rfl : k = 256 := by omega
      have hfin : longOfS code more = none := by
        cases h : longOfS code more with
        | none => rfl
        | some n =>
          exfalso
          obtain ⟨h1, h2, h3, h4⟩ := longOf_sound code more n h
          have e : n = (((n - 3).toNat + 3 : Nat) : Int) := by omega
          exact hno (n - 3).toNat (by omega) (by rw [← e]; exact ⟨h3, h4⟩)
      have HF := Lib.hid hfin; clear hfin hno
      go_wp2_with fail
      go_ret2
      rw [HF.out]
      exact ⟨rfl, hb⟩
set_option maxRecDepth 100000 in
set_option maxHeartbeats 1000000 in
theorem refLongBits_any (w : World) (code : Int) : Calls Try.prog 50 #[.int .i64 code] w fun e w' => e = .returned (.int .i64 (longBitsS code)) ∧ Below w.heap.size w w' := by
  go_enter Try.func50, Try.ntmps50
  go_wp2_with fail
  go_loopw [3, 4, 5] (fun t _ _ wr => ∃ k : Nat, k ≤ 256 ∧ t = .int .i64 ((k : Int) + 3) ∧ (∀ j : Nat, j < k → ¬ (((sg (longS ((j + 3 : Nat) : Int))).1 : Int) = code)) ∧ Below w.heap.size w wr) (fun t _ _ _ => 260 - (intOf t).toNat)
  case atStart => exact ⟨0, Nat.zero_le _, rfl, fun j hj => by omega, Below.refl _ _⟩
  case round =>
    obtain ⟨k, hk, rfl, hno, hb⟩ := hrel
    by_cases hlt : k < 256
    · have hin := longBits_in k hlt
      have hrl := fun W => refLong_any W ((k : Int) + 3) (by omega) (by omega)
      have e3 : ((k + 3 : Nat) : Int) = (k : Int) + 3 := by omega
      rw [e3] at hin
      have HNO := Lib.hid hno; clear hno
      have hself : ∀ P : Nat × Nat × Int → Prop, P (sg (longS ((k + 3 : Nat) : Int))) → P (sg (longS ((k : Int) + 3))) := fun P h => by rw [← e3]; exact h
      have HSELF := Lib.hid hself; clear hself
      have hrl2 := fun W => (signV_sg (longS ((k : Int) + 3))) ▸ hrl W
      have HRL := Lib.hid hrl2; clear hrl2 hrl
      have HIN := Lib.hid hin; clear hin e3
      generalize hsg : sg (longS ((k : Int) + 3)) = x at *
      have HSG := Lib.hid hsg; clear hsg
      generalize (longS ((k : Int) + 3)).isSome = ok at *
      obtain ⟨c, b, m⟩ := x
      by_cases hc : (c : Int) = code
      · have HOK := Lib.hid (show longBitsS code = (b : Int) by rw [← hc]; exact HIN.out)
        have t1 : ((c : Int) == code) = true := by simp [hc]
        clear hc
        go_wp2_with (go_at_call 46; refine (HRL.out _).mono ?_; rintro e w1 ⟨rfl, hb1⟩)
        go_ret
        rw [HOK.out]
        exact ⟨rfl, (hb.trans (hb1.mono hb.size)).alloc (Nat.le_trans hb.size hb1.size) _⟩
      · have t1 : ((c : Int) == code) = false := by simp [hc]
        have HNE := Lib.hid hc
        clear hc
        go_wp2_with (go_at_call 46; refine (HRL.out _).mono ?_; rintro e w1 ⟨rfl, hb1⟩)
        refine ⟨⟨k + 1, by omega, by go_num, fun j hj => ?_, (hb.trans (hb1.mono hb.size)).alloc (Nat.le_trans hb.size hb1.size) _⟩, by simp [intOf]; omega⟩
        by_cases hjk : j < k
        · exact HNO.out j hjk
        · obtain rfl : j = k := by omega
          intro hh
          exact HNE.out (HSELF.out (fun x => (x.1 : Int) = code) hh)
    · obtain rfl : k = 256 := by omega
      have hfin : longBitsS code = -1 := longBits_sound code (fun n h1 h2 h3 => by
        have e : n = (((n - 3).toNat + 3 : Nat) : Int) := by omega
        exact hno (n - 3).toNat (by omega) (by rw [← e]; exact h3))
      have HF := Lib.hid hfin; clear hfin hno
      go_wp2_with fail
      go_ret
      rw [HF.out]
      exact ⟨rfl, hb⟩
end Go.Proofs.Ythdmajhhioiaoaa
