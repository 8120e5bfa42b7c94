/- The contract of the reference's parts of layer 42: the recursion. -/
import Derived.Test.YtjglkbbhihlcgaaDoorRefParts
set_option linter.unusedVariables false
set_option linter.unusedSimpArgs false
namespace Go.Proofs.YtjglkbbhihlcgaaDoor
open Go Go.RowKit
open Sw
set_option maxRecDepth 100000 in
set_option maxHeartbeats 4000000 in
theorem refPartsRec_any (k : Nat) : ∀ (w : World) (A B : Option Addr) (cA cB : Nat) (a b : List ByteArray), a.length ≤ k → b.length ≤ 1000000 → a.length ≤ cA → b.length ≤ cB → cA ≤ maxLen → cB ≤ maxLen → SlOf w 1 bE A a → SlOf w 1 bE B b → (∀ x ∈ a, x.size ≤ 200) → (∀ x ∈ b, x.size ≤ 200) →
    Calls Tryd.prog 48 #[.slice A a.length cA, .slice B b.length cB] w fun e w' => e = .returned (.bool (pm a b)) ∧ Below w.heap.size w w' := by
  have hnil : ∀ (w : World) (A B : Option Addr) (cA cB : Nat) (b : List ByteArray), Calls Tryd.prog 48 #[.slice A 0 cA, .slice B b.length cB] w fun e w' => e = .returned (.bool (pm [] b)) ∧ Below w.heap.size w w' := by
    intro w A B cA cB b
    have hp : pm [] b = b.isEmpty := rfl
    rw [hp]
    cases b with
    | nil =>
      go_enter Tryd.func48, Tryd.ntmps48
      go_wp2_with fail
      go_ret
      exact ⟨rfl, Below.refl _ _⟩
    | cons y b =>
      rw [List.length_cons]
      generalize b.length = nb at *
      have hb0 : ((nb : Int) + 1 == 0) = false := by rw [beq_eq_false_iff_ne]; omega
      go_enter Tryd.func48, Tryd.ntmps48
      go_wp2_with fail
      go_ret
      exact ⟨by first | rfl | (rw [hb0]; first | done | rfl), Below.refl _ _⟩
  induction k with
  | zero =>
    intro w A B cA cB a b hk hbl hcA hcB hmA hmB hsA hsB hzA hzB
    have ha : a = [] := List.length_eq_zero_iff.1 (by omega)
    subst ha
    exact hnil w A B cA cB b
  | succ k ih =>
    intro w A B cA cB a b hk hbl hcA hcB hmA hmB hsA hsB hzA hzB
    have hmA' := hmA
    have hmB' := hmB
    unfold maxLen at hmA hmB
    cases a with
    | nil => exact hnil w A B cA cB b
    | cons x a =>
      rw [List.length_cons] at hcA hk ⊢
      obtain ⟨bA, oA, rfl, hlA, hcs⟩ := hsA (by simp)
      have hca := hcs 0 (by simp) 0 (by omega)
      simp [bE] at hca
      clear hcs
      obtain ⟨TA, hTA, hsTA⟩ := tail_str w bA oA a.length cA (x :: a) (by simp) hcA hsA
      rw [List.drop_succ_cons, List.drop_zero] at hsTA
      have hzA' : ∀ y ∈ a, y.size ≤ 200 := fun y hy => hzA y (List.mem_cons_of_mem _ hy)
      have hzx : x.size ≤ 200 := hzA x (by simp)
      have ha0 : ((a.length : Int) + 1 == 0) = false := by rw [beq_eq_false_iff_ne]; omega
      have hxx : (x.toList == [42, 42]) = decide (x = mkB [42, 42]) := str_is x [42, 42]
      by_cases hx : x = mkB [42, 42]
      · rw [decide_eq_true hx] at hxx
        have hpm : pm (x :: a) b = sfx (pm a) b := by rw [pm, if_pos hx]
        rw [hpm]
        have HIT := Lib.hid (fun n => sfx_hit (pm a) b n)
        have MISS := Lib.hid (sfx_miss (pm a) b)
        have HTL := Lib.hid (fun n hn => tail_at w B b.length cB n b rfl hcB hn hsB)
        have HIH := Lib.hid (fun W (hb : Below w.heap.size w W) n (hn : n ≤ b.length) T (hT : SlOf w 1 bE T (b.drop n)) => (by
          have := ih W TA T (cA - 1) (cB - n) a (b.drop n) (by omega) (by rw [List.length_drop]; omega) (by omega) (by rw [List.length_drop]; omega) (by omega) (by omega) (hsTA.below hb (Nat.le_refl _)) (hT.below hb (Nat.le_refl _)) hzA' (fun z hz => hzB z (List.mem_of_mem_drop hz))
          rw [List.length_drop] at this
          exact this : Calls Tryd.prog 48 #[.slice TA a.length (cA - 1), .slice T (b.length - n) (cB - n)] W fun e w' => e = .returned (.bool (pm a (b.drop n))) ∧ Below W.heap.size W w'))
        generalize sfx (pm a) b = R at *
        clear hpm hx hsTA hsA hsB ih hzA hzB hzA' hnil
        generalize a.length = na at *
        obtain ⟨nb, hnb⟩ : ∃ nb, b.length = nb := ⟨_, rfl⟩
        rw [hnb] at HTL HIH MISS hcB hbl ⊢
        clear hnb
        go_enter Tryd.func48, Tryd.ntmps48
        go_wp2_with fail
        go_loopw [4, 5] (fun r iv wr => ∃ n : Nat, n ≤ nb + 1 ∧ r = .bool false ∧ iv = .int .i64 n ∧ (∀ j, j < n → pm a (b.drop j) = false) ∧ Below w.heap.size w wr) (fun _ iv _ => nb + 1 - (intOf iv).toNat)
        case atStart => exact ⟨0, Nat.zero_le _, rfl, rfl, fun j h => absurd h (Nat.not_lt_zero _), Below.refl _ _⟩
        case round =>
          obtain ⟨n, hn, rfl, rfl, hall, hbr⟩ := hrel
          have HA := Lib.hid hall; clear hall
          by_cases hlt : n ≤ nb
          · have hnI : (n : Int) ≤ nb := by omega
            obtain ⟨T, hT, hsT⟩ := HTL.out n hlt
            have C1 := Lib.hid (fun q : Held (Aft wr) => HIH.out (HeldW q) (hbr.trans ((HeldW_spec q).mono hbr.size)) n hlt T hsT)
            have HNX := Lib.hid (fun (hf : pm a (b.drop n) = false) j (hj : j < n + 1) => (by
              by_cases h2 : j < n
              · exact HA.out j h2
              · obtain rfl : j = n := by omega
                exact hf : pm a (b.drop j) = false))
            have HHT := Lib.hid (HIT.out n)
            clear hsT
            generalize pm a (b.drop n) = r at *
            haveI := Aft.some wr
            go_wp2_with fail
            cases r with
            | true =>
              have HR := Lib.hid (HHT.out rfl)
              refine wp_region_class (Aft wr) (by kernel_rfl) (by kernel_rfl) (Aft.start wr) ?_
              repeat (go_big_quiet_step (first | with_reducible exact held_below Aft.keep (C1.out _)))
              refine wpQuiet_nil ?_
              rintro _ ⟨nn, rfl⟩
              have HW := hbr.trans ((HeldW_spec nn).mono hbr.size)
              go_wp2_with fail
              go_ret
              exact ⟨by rw [HR.out]; first | done | rfl, HW⟩
            | false =>
              have HN2 := Lib.hid (HNX.out rfl)
              refine wp_region_class (Aft wr) (by kernel_rfl) (by kernel_rfl) (Aft.start wr) ?_
              repeat (go_big_quiet_step (first | with_reducible exact held_below Aft.keep (C1.out _)))
              refine wpQuiet_nil ?_
              rintro _ ⟨nn, rfl⟩
              have HW := hbr.trans ((HeldW_spec nn).mono hbr.size)
              go_wp2_with fail
              go_roundw
              case rel => exact ⟨n + 1, by omega, rfl, by go_num, HN2.out, HW⟩
              case measure => simp [intOf]; omega
          · have HR := Lib.hid (MISS.out (fun j hj => HA.out j (by omega)))
            have hnI : ¬ (n : Int) ≤ nb := by omega
            have hnJ : (nb : Int) < n := by omega
            clear hlt
            go_wp2_with fail
            go_ret
            exact ⟨by rw [HR.out]; first | done | rfl, hbr⟩
      · rw [decide_eq_false hx] at hxx
        have hcan : ∀ n : Held (Aft w), (HeldW n).cell? ⟨bA, oA, none⟩ = some (.string x) := fun n => by rw [Aft.cell n hlA]; exact hca
        have hpm : pm (x :: a) b = hdp x (pm a) b := by rw [pm, if_neg hx]
        cases b with
        | nil =>
          have hp2 : pm (x :: a) [] = false := hpm
          rw [hp2]
          clear hp2 hpm hx hsTA hsA hsB ih hnil hzA hzB hzA'
          generalize a.length = na at *
          haveI := Aft.some w
          go_enter Tryd.func48, Tryd.ntmps48
          go_wp2_with fail
          refine wp_region_class (Aft w) (by kernel_rfl) (by kernel_rfl) (Aft.start w) ?_
          repeat (go_big_quiet_step (fail))
          refine wpQuiet_nil ?_
          rintro _ ⟨nn, rfl⟩
          have HW := HeldW_spec nn
          go_wp2_with fail
          go_ret
          exact ⟨rfl, HW⟩
        | cons y b =>
          rw [List.length_cons] at hcB hbl
          obtain ⟨bB, oB, rfl, hlB, hcs2⟩ := hsB (by simp)
          have hcb := hcs2 0 (by simp) 0 (by omega)
          simp [bE] at hcb
          clear hcs2
          obtain ⟨TB, hTB, hsTB⟩ := tail_str w bB oB b.length cB (y :: b) (by simp) hcB hsB
          rw [List.drop_succ_cons, List.drop_zero] at hsTB
          have hzB' : ∀ z ∈ b, z.size ≤ 200 := fun z hz => hzB z (List.mem_cons_of_mem _ hz)
          have hzy : y.size ≤ 200 := hzB y (by simp)
          have hcbn : ∀ n : Held (Aft w), (HeldW n).cell? ⟨bB, oB, none⟩ = some (.string y) := fun n => by rw [Aft.cell n hlB]; exact hcb
          have C1 := Lib.hid (fun n : Held (Aft w) => refPickPart_any (HeldW n) x y hzx hzy)
          have C2 := Lib.hid (fun n : Held (Aft w) => ih (HeldW n) TA TB (cA - 1) (cB - 1) a b (by omega) (by omega) (by omega) (by omega) (by omega) (by omega) (hsTA.below (HeldW_spec n) (Nat.le_refl _)) (hsTB.below (HeldW_spec n) (Nat.le_refl _)) hzA' hzB')
          have hp2 : pm (x :: a) (y :: b) = (mat x.data.toList y.data.toList && pm a b) := by rw [hpm, hdp]
          rw [hp2]
          rw [List.length_cons]
          generalize mat x.data.toList y.data.toList = r1 at *
          generalize pm a b = r2 at *
          clear hp2 hpm hx hsTA hsA hsB hsTB ih hnil hzA hzB hzA' hzB'
          generalize a.length = na at *
          generalize b.length = nb at *
          have hb0 : (0 : Int) < (nb : Int) + 1 := by omega
          haveI := Aft.some w
          go_enter Tryd.func48, Tryd.ntmps48
          go_wp2_with fail
          cases r1 with
          | false =>
            refine wp_region_class (Aft w) (by kernel_rfl) (by kernel_rfl) (Aft.start w) ?_
            repeat (go_big_quiet_step (first | with_reducible exact held_below Aft.keep (C1.out _)))
            refine wpQuiet_nil ?_
            rintro _ ⟨nn, rfl⟩
            have HW := HeldW_spec nn
            go_wp2_with fail
            go_ret
            exact ⟨rfl, HW⟩
          | true =>
            cases r2 with
            | true =>
              refine wp_region_class (Aft w) (by kernel_rfl) (by kernel_rfl) (Aft.start w) ?_
              repeat (go_big_quiet_step (first | with_reducible exact held_below Aft.keep (C1.out _) | with_reducible exact held_below Aft.keep (C2.out _)))
              refine wpQuiet_nil ?_
              rintro _ ⟨nn, rfl⟩
              have HW := HeldW_spec nn
              go_wp2_with fail
              go_ret
              exact ⟨rfl, HW⟩
            | false =>
              refine wp_region_class (Aft w) (by kernel_rfl) (by kernel_rfl) (Aft.start w) ?_
              repeat (go_big_quiet_step (first | with_reducible exact held_below Aft.keep (C1.out _) | with_reducible exact held_below Aft.keep (C2.out _)))
              refine wpQuiet_nil ?_
              rintro _ ⟨nn, rfl⟩
              have HW := HeldW_spec nn
              go_wp2_with fail
              go_ret
              exact ⟨rfl, HW⟩
end Go.Proofs.YtjglkbbhihlcgaaDoor
