/- The contract of pick.Match's inner function. -/
import Derived.Test.YtjglkbbhihlcgaaDoorPickRight
import Derived.Test.YtjglkbbhihlcgaaDoorHeld
set_option linter.unusedVariables false
set_option linter.unusedSimpArgs false
namespace Go.Proofs.YtjglkbbhihlcgaaDoor
open Go Go.RowKit
open Sw
theorem tail_str (w : World) (b off n c : Nat) (l : List ByteArray) (hl : l.length = n + 1) (hc : n + 1 ≤ c) (h : SlOf w 1 bE (some ⟨b, off, none⟩) l) :
    ∃ T, (∀ W, (Instr.slice 26 (.slice (some ⟨b, off, none⟩) (n + 1) c) (some (.int .i64 1)) none none).run Tryd.prog W = .ok (.slice T n (c - 1)) W) ∧ SlOf w 1 bE T (l.drop 1) := by
  have hr := fun W => run_slice_l (P := Tryd.prog) (w := W) 26 (some ⟨b, off, none⟩) (n + 1) c (by kernel_rfl) .i64 1 (by omega) (by omega)
  refine ⟨if c = 1 then some ⟨b, off, none⟩ else some ⟨b, off + 1, none⟩, fun W => ?_, ?_⟩
  · rw [hr]
    have hsz : (sizeOf (Tryd.prog.elem 26)).run Tryd.prog W = .ok 1 W := by
      simp only [sizeOf]
      kernel_rfl
    rw [hsz]
    simp only [Result.andThen, sliced]
    congr 1
  · split
    · have hn : l.drop 1 = [] := List.drop_eq_nil_of_le (by omega)
      rw [hn]
      exact SlOf.nil _ _ _ _
    · have := h.drop 1
      rw [Nat.mul_one] at this
      exact this
/-- the function itself, as it lies in its own variable -/
def matchF (g : Nat) : Value := .func (.func 47) #[] #[.pointer (some ⟨g, 0, none⟩)]
def McPost (a b : List ByteArray) (w : World) (e : Ending) (w' : World) : Prop := e = .returned (.bool (pm a b)) ∧ Below w.heap.size w w'
set_option maxRecDepth 100000 in
set_option maxHeartbeats 4000000 in
theorem matchRec_any (k : Nat) : ∀ (w : World) (g : Nat) (A B : Option Addr) (cA cB : Nat) (a b : List ByteArray), a.length + b.length ≤ k → a.length ≤ cA → b.length ≤ cB → cA ≤ maxLen → cB ≤ maxLen → SlOf w 1 bE A a → SlOf w 1 bE B b → (∀ x ∈ a, x.size ≤ 200) → (∀ x ∈ b, x.size ≤ 200) → g < w.heap.size → w.cell? ⟨g, 0, none⟩ = some (matchF g) →
    Calls Tryd.prog 47 #[.slice A a.length cA, .slice B b.length cB, .pointer (some ⟨g, 0, none⟩)] w fun e w' => e = .returned (.bool (pm a b)) ∧ Below w.heap.size w w' := by
  induction k with
  | zero =>
    intro w g A B cA cB a b hk hcA hcB hmA hmB hsA hsB hzA hzB hg hcg
    have ha : a = [] := List.length_eq_zero_iff.1 (by omega)
    have hb : b = [] := List.length_eq_zero_iff.1 (by omega)
    subst ha
    subst hb
    unfold maxLen at hmA hmB
    clear hsA hsB
    go_enter Tryd.func47, Tryd.ntmps47
    go_wp2_with fail
    go_ret
    exact ⟨rfl, Below.refl _ _⟩
  | succ k ih =>
    intro w g A B cA cB a b hk hcA hcB hmA hmB hsA hsB hzA hzB hg hcg
    have hmA' := hmA
    have hmB' := hmB
    unfold maxLen at hmA hmB
    cases a with
    | nil =>
      have hp : pm [] b = b.isEmpty := rfl
      rw [hp]
      cases b with
      | nil =>
        clear hsA hsB
        go_enter Tryd.func47, Tryd.ntmps47
        go_wp2_with fail
        go_ret
        exact ⟨rfl, Below.refl _ _⟩
      | cons y b =>
        rw [List.length_cons] at hcB ⊢
        generalize b.length = nb at *
        have hb0 : ((nb : Int) + 1 == 0) = false := by rw [beq_eq_false_iff_ne]; omega
        clear hsA hsB
        go_enter Tryd.func47, Tryd.ntmps47
        go_wp2_with fail
        go_ret
        exact ⟨by first | rfl | (rw [hb0]; first | done | rfl), Below.refl _ _⟩
    | cons x a =>
      rw [List.length_cons] at hcA hk ⊢
      obtain ⟨bA, oA, rfl, hlA, hcs⟩ := hsA (by simp)
      have hca := hcs 0 (by simp) 0 (by omega)
      simp [bE] at hca
      clear hcs
      obtain ⟨TA, hTA, hsTA⟩ := tail_str w bA oA a.length cA (x :: a) (by simp) hcA hsA
      rw [List.drop_succ_cons, List.drop_zero] at hsTA
      have hzA' : ∀ y ∈ a, y.size ≤ 200 := fun y hy => hzA y (List.mem_cons_of_mem _ hy)
      have hzx : x.size ≤ 200 := hzA x (by simp)
      have hcgn : ∀ n : Held (Aft w), (HeldW n).cell? ⟨g, 0, none⟩ = some (matchF g) := fun n => by rw [Aft.cell n hg]; exact hcg
      have hcan : ∀ n : Held (Aft w), (HeldW n).cell? ⟨bA, oA, none⟩ = some (.string x) := fun n => by rw [Aft.cell n hlA]; exact hca
      have ha0 : ((a.length : Int) + 1 == 0) = false := by rw [beq_eq_false_iff_ne]; omega
      have hxx : (x.toList == [42, 42]) = decide (x = mkB [42, 42]) := str_is x [42, 42]
      by_cases hx : x = mkB [42, 42]
      · rw [decide_eq_true hx] at hxx
        have hpm : pm (x :: a) b = sfx (pm a) b := by rw [pm, if_pos hx]
        have C1 := Lib.hid (fun n : Held (Aft w) => ih (HeldW n) g TA B (cA - 1) cB a b (by omega) (by omega) hcB (by omega) hmB' (hsTA.below (HeldW_spec n) (Nat.le_refl _)) (hsB.below (HeldW_spec n) (Nat.le_refl _)) hzA' hzB (Nat.lt_of_lt_of_le hg (HeldW_spec n).size) (hcgn n))
        cases b with
        | nil =>
          have hp2 : pm (x :: a) [] = pm a [] := hpm
          rw [hp2]
          have HTA := Lib.hid hTA; clear hTA
          generalize pm a [] = r at *
          have hTA := HTA.out
          clear hp2 hpm hx hsTA hsA hsB ih hzA hzB hzA'
          generalize a.length = na at *
          unfold matchF at hcgn
          haveI := Aft.some w
          go_enter Tryd.func47, Tryd.ntmps47
          go_wp2_with fail
          cases r with
          | true =>
            refine wp_region_class (Aft w) (by kernel_rfl) (by kernel_rfl) (Aft.start w) ?_
            repeat (go_big_quiet_step (first | with_reducible exact held_below Aft.keep (C1.out _)))
            refine wpQuiet_nil ?_
            rintro _ ⟨nn, rfl⟩
            have HW := HeldW_spec nn
            go_wp2_with fail
            go_ret
            exact ⟨rfl, HW⟩
          | false =>
            refine wp_region_class (Aft w) (by kernel_rfl) (by kernel_rfl) (Aft.start w) ?_
            repeat (go_big_quiet_step (first | with_reducible exact held_below Aft.keep (C1.out _)))
            refine wpQuiet_nil ?_
            rintro _ ⟨nn, rfl⟩
            have HW := HeldW_spec nn
            go_wp2_with fail
            go_ret
            exact ⟨rfl, HW⟩
        | cons y b =>
          rw [List.length_cons] at hcB hk
          obtain ⟨bB, oB, rfl, hlB, _⟩ := hsB (by simp)
          obtain ⟨TB, hTB, hsTB⟩ := tail_str w bB oB b.length cB (y :: b) (by simp) hcB hsB
          rw [List.drop_succ_cons, List.drop_zero] at hsTB
          have hzB' : ∀ z ∈ b, z.size ≤ 200 := fun z hz => hzB z (List.mem_cons_of_mem _ hz)
          have C2 := Lib.hid (fun n : Held (Aft w) => ih (HeldW n) g (some ⟨bA, oA, none⟩) TB cA (cB - 1) (x :: a) b (by simp; omega) (by simp; omega) (by omega) hmA' (by omega) (hsA.below (HeldW_spec n) (Nat.le_refl _)) (hsTB.below (HeldW_spec n) (Nat.le_refl _)) hzA hzB' (Nat.lt_of_lt_of_le hg (HeldW_spec n).size) (hcgn n))
          have hp2 : pm (x :: a) (y :: b) = (pm a (y :: b) || pm (x :: a) b) := by rw [hpm, sfx, pm, if_pos hx]
          rw [hp2]
          rw [List.length_cons] at C1 C2 ⊢
          generalize pm a (y :: b) = r1 at *
          generalize pm (x :: a) b = r2 at *
          clear hp2 hpm hx hsTA hsA hsB hsTB ih hzA hzB hzA' hzB'
          generalize a.length = na at *
          generalize b.length = nb at *
          have hb0 : (0 : Int) < (nb : Int) + 1 := by omega
          unfold matchF at hcgn
          haveI := Aft.some w
          go_enter Tryd.func47, Tryd.ntmps47
          go_wp2_with fail
          cases r1 with
          | true =>
            refine wp_region_class (Aft w) (by kernel_rfl) (by kernel_rfl) (Aft.start w) ?_
            repeat (go_big_quiet_step (first | with_reducible exact held_below Aft.keep (C1.out _)))
            refine wpQuiet_nil ?_
            rintro _ ⟨nn, rfl⟩
            have HW := HeldW_spec nn
            go_wp2_with fail
            go_ret
            exact ⟨rfl, HW⟩
          | false =>
            cases r2 with
            | true =>
              refine wp_region_class (Aft w) (by kernel_rfl) (by kernel_rfl) (Aft.start w) ?_
              repeat (go_big_quiet_step (first | with_reducible exact held_below Aft.keep (C1.out _) | with_reducible exact held_below Aft.keep (C2.out _)))
              refine wpQuiet_nil ?_
              rintro _ ⟨nn, rfl⟩
              have HW := HeldW_spec nn
              go_wp2_with fail
              go_ret
              exact ⟨rfl, HW⟩
            | false =>
              refine wp_region_class (Aft w) (by kernel_rfl) (by kernel_rfl) (Aft.start w) ?_
              repeat (go_big_quiet_step (first | with_reducible exact held_below Aft.keep (C1.out _) | with_reducible exact held_below Aft.keep (C2.out _)))
              refine wpQuiet_nil ?_
              rintro _ ⟨nn, rfl⟩
              have HW := HeldW_spec nn
              go_wp2_with fail
              go_ret
              exact ⟨rfl, HW⟩
      · rw [decide_eq_false hx] at hxx
        have hpm : pm (x :: a) b = hdp x (pm a) b := by rw [pm, if_neg hx]
        cases b with
        | nil =>
          have hp2 : pm (x :: a) [] = false := hpm
          rw [hp2]
          clear hp2 hpm hx hsTA hsA hsB ih hzA hzB hzA'
          generalize a.length = na at *
          haveI := Aft.some w
          go_enter Tryd.func47, Tryd.ntmps47
          go_wp2_with fail
          refine wp_region_class (Aft w) (by kernel_rfl) (by kernel_rfl) (Aft.start w) ?_
          repeat (go_big_quiet_step (fail))
          refine wpQuiet_nil ?_
          rintro _ ⟨nn, rfl⟩
          have HW := HeldW_spec nn
          go_wp2_with fail
          go_ret
          exact ⟨rfl, HW⟩
        | cons y b =>
          rw [List.length_cons] at hcB hk
          obtain ⟨bB, oB, rfl, hlB, hcs2⟩ := hsB (by simp)
          have hcb := hcs2 0 (by simp) 0 (by omega)
          simp [bE] at hcb
          clear hcs2
          obtain ⟨TB, hTB, hsTB⟩ := tail_str w bB oB b.length cB (y :: b) (by simp) hcB hsB
          rw [List.drop_succ_cons, List.drop_zero] at hsTB
          have hzB' : ∀ z ∈ b, z.size ≤ 200 := fun z hz => hzB z (List.mem_cons_of_mem _ hz)
          have hzy : y.size ≤ 200 := hzB y (by simp)
          have hcbn : ∀ n : Held (Aft w), (HeldW n).cell? ⟨bB, oB, none⟩ = some (.string y) := fun n => by rw [Aft.cell n hlB]; exact hcb
          have C1 := Lib.hid (fun n : Held (Aft w) => pickPart_any (HeldW n) x y hzx hzy)
          have C2 := Lib.hid (fun n : Held (Aft w) => ih (HeldW n) g TA TB (cA - 1) (cB - 1) a b (by omega) (by omega) (by omega) (by omega) (by omega) (hsTA.below (HeldW_spec n) (Nat.le_refl _)) (hsTB.below (HeldW_spec n) (Nat.le_refl _)) hzA' hzB' (Nat.lt_of_lt_of_le hg (HeldW_spec n).size) (hcgn n))
          have hp2 : pm (x :: a) (y :: b) = (mat x.data.toList y.data.toList && pm a b) := by rw [hpm, hdp]
          rw [hp2]
          rw [List.length_cons]
          generalize mat x.data.toList y.data.toList = r1 at *
          generalize pm a b = r2 at *
          clear hp2 hpm hx hsTA hsA hsB hsTB ih hzA hzB hzA' hzB'
          generalize a.length = na at *
          generalize b.length = nb at *
          have hb0 : (0 : Int) < (nb : Int) + 1 := by omega
          unfold matchF at hcgn
          haveI := Aft.some w
          go_enter Tryd.func47, Tryd.ntmps47
          go_wp2_with fail
          cases r1 with
          | false =>
            refine wp_region_class (Aft w) (by kernel_rfl) (by kernel_rfl) (Aft.start w) ?_
            repeat (go_big_quiet_step (first | with_reducible exact held_below Aft.keep (C1.out _)))
            refine wpQuiet_nil ?_
            rintro _ ⟨nn, rfl⟩
            have HW := HeldW_spec nn
            go_wp2_with fail
            go_ret
            exact ⟨rfl, HW⟩
          | true =>
            cases r2 with
            | true =>
              refine wp_region_class (Aft w) (by kernel_rfl) (by kernel_rfl) (Aft.start w) ?_
              repeat (go_big_quiet_step (first | with_reducible exact held_below Aft.keep (C1.out _) | with_reducible exact held_below Aft.keep (C2.out _)))
              refine wpQuiet_nil ?_
              rintro _ ⟨nn, rfl⟩
              have HW := HeldW_spec nn
              go_wp2_with fail
              go_ret
              exact ⟨rfl, HW⟩
            | false =>
              refine wp_region_class (Aft w) (by kernel_rfl) (by kernel_rfl) (Aft.start w) ?_
              repeat (go_big_quiet_step (first | with_reducible exact held_below Aft.keep (C1.out _) | with_reducible exact held_below Aft.keep (C2.out _)))
              refine wpQuiet_nil ?_
              rintro _ ⟨nn, rfl⟩
              have HW := HeldW_spec nn
              go_wp2_with fail
              go_ret
              exact ⟨rfl, HW⟩
end Go.Proofs.YtjglkbbhihlcgaaDoor
