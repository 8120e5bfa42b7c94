/- Several texts, joined for the limit of sixty files; each one opens with its own comment. -/
import Derived.Test.YtlogdionhgabdaaDoorJoin45
import Derived.Test.YtlogdionhgabdaaDoorJoin1
/- The contract of the reference's Clean. -/
set_option linter.unusedVariables false
set_option linter.unusedSimpArgs false
namespace Sw
open Go Go.RowKit
theorem ix_mem (l : List UInt8) (c : UInt8) : decide (0 ≤ Lib.indexByte l c) = decide (c ∈ l) := by
  rw [decide_eq_decide]
  constructor
  · intro h
    obtain ⟨i, hi⟩ := Int.eq_ofNat_of_zero_le h
    obtain ⟨h1, _⟩ := Lib.indexByte_some hi
    exact List.mem_of_getElem? h1
  · intro h
    by_cases h0 : 0 ≤ Lib.indexByte l c
    · exact h0
    · have hge := Lib.indexByte_ge l c
      obtain ⟨k, hk, hke⟩ := List.getElem_of_mem h
      exact absurd (by rw [List.getElem?_eq_getElem hk, hke]) (Lib.indexByte_none (show Lib.indexByte l c = -1 by omega) k)
theorem pre_47 (l : List UInt8) : Lib.hasPrefix l [47] = decide (l.head? = some 47) := by
  cases l with
  | nil => rfl
  | cons a l =>
    show List.isPrefixOf [47] (a :: l) = _
    by_cases h : a = 47
    · subst h; simp [List.isPrefixOf]
    · rw [decide_eq_false (by simpa using h)]
      simp [List.isPrefixOf]
      exact fun e => h e.symm
theorem bad0_eq (s : ByteArray) : bad0 s = (decide (s.data.toList.head? = some 47) || decide ((0 : UInt8) ∈ s.data.toList)) := by
  unfold bad0
  rw [pre_47, ix_mem]
theorem clStep_no {l l' : List ByteArray} {x : ByteArray} (hl : ∀ y ∈ l, hasSl y = false) (hx : hasSl x = false) (h : clStep l x = some l') : ∀ y ∈ l', hasSl y = false := by
  unfold clStep at h
  split at h
  · injection h with h; subst h; exact hl
  · split at h
    · split at h
      · cases h
      · injection h with h; subst h; exact fun y hy => hl y (List.dropLast_subset l hy)
    · injection h with h; subst h
      intro y hy
      rcases List.mem_append.1 hy with h | h
      · exact hl y h
      · rw [List.mem_singleton] at h; rw [h]; exact hx
theorem clFold_no : ∀ (xs l l' : List ByteArray), (∀ y ∈ l, hasSl y = false) → (∀ y ∈ xs, hasSl y = false) → clFold l xs = some l' → ∀ y ∈ l', hasSl y = false
  | [], l, l', hl, _, h => by
    have h : some l = some l' := h
    injection h with h
    subst h
    exact hl
  | x :: xs, l, l', hl, hx, h => by
    have h' : (match clStep l x with | none => none | some l' => clFold l' xs) = some l' := h
    cases hs : clStep l x with
    | none => rw [hs] at h'; cases h'
    | some l2 =>
      rw [hs] at h'
      exact clFold_no xs l2 l' (clStep_no hl (hx x (by simp)) hs) (fun y hy => hx y (List.mem_cons_of_mem _ hy)) h'
theorem spS_no (s : ByteArray) : ∀ y ∈ spS s, hasSl y = false := by
  intro y hy
  unfold spS at hy
  obtain ⟨a, ha, rfl⟩ := List.mem_map.1 hy
  unfold hasSl
  rw [data_mkB]
  exact decide_eq_false (spL_no _ a ha)
theorem rightL_nil : rightL [] = false := by decide
/-- what comes of the parts that are left -/
theorem clean_some {s : ByteArray} {l : List ByteArray} (h : cleanO s = some l) : (rightL (jnL (datL l)) = true → l ≠ [] ∧ cleanS s = mkB (jnL (datL l)) ∧ cleanB s = true) ∧ (rightL (jnL (datL l)) = false → cleanS s = ⟨#[]⟩ ∧ cleanB s = false) := by
  have hno : l.any hasSl = false := by
    unfold cleanO at h
    split at h
    · cases h
    · rw [List.any_eq_false]
      intro y hy
      rw [clFold_no _ _ _ (by simp) (spS_no s) h y hy]
      simp
  have e1 : cleanS s = joinS l := by unfold cleanS; rw [h]
  have e2 : cleanB s = joinB l := by unfold cleanB; rw [h]
  rw [e1, e2]
  unfold joinS joinB
  rw [hno]
  refine ⟨fun hr => ⟨fun e => ?_, ?_, ?_⟩, fun hr => ⟨?_, ?_⟩⟩
  · subst e
    have : rightL (jnL (datL [])) = rightL [] := rfl
    rw [this, rightL_nil] at hr
    cases hr
  all_goals rw [hr]; rfl
end Sw
namespace Go.Proofs.YtlogdionhgabdaaDoor
open Go Go.RowKit
open Sw
end Go.Proofs.YtlogdionhgabdaaDoor
/- The walk of NameCleans. -/
set_option linter.unusedVariables false
set_option linter.unusedSimpArgs false
namespace Sw
open Go Go.RowKit
theorem rightL_parts {p : List UInt8} (h : rightL p = true) : ∀ x ∈ spL p, partL x = true := by
  unfold rightL at h
  rw [Bool.and_eq_true] at h
  exact fun x hx => List.all_eq_true.1 h.2 x hx
theorem partL_facts {x : List UInt8} (h : partL x = true) : (∀ b ∈ x, okB b = true) ∧ x ≠ [] ∧ x ≠ [46] ∧ x ≠ [46, 46] := by
  unfold partL at h
  simp only [Bool.and_eq_true, decide_eq_true_eq, List.all_eq_true] at h
  refine ⟨h.1.1.1.1, fun e => ?_, h.1.1.2, h.1.2⟩
  subst e
  have := h.1.1.1.2.1
  simp at this
theorem mkB_inj {a b : List UInt8} (h : mkB a = mkB b) : a = b := by
  have := congrArg (fun x : ByteArray => x.data.toList) h
  simpa [data_mkB] using this
theorem clFold_all : ∀ (xs l : List ByteArray), (∀ x ∈ xs, x ≠ ⟨#[]⟩ ∧ x ≠ mkB [46] ∧ x ≠ mkB [46, 46]) → clFold l xs = some (l ++ xs)
  | [], l, _ => by rw [List.append_nil]; rfl
  | x :: xs, l, h => by
    obtain ⟨h1, h2, h3⟩ := h x (by simp)
    have hs : clStep l x = some (l ++ [x]) := by
      unfold clStep
      rw [if_neg (fun e => e.elim h1 h2), if_neg h3]
    show (match clStep l x with | none => none | some l' => clFold l' xs) = _
    rw [hs]
    show clFold (l ++ [x]) xs = _
    rw [clFold_all xs _ (fun y hy => h y (List.mem_cons_of_mem _ hy)), List.append_assoc]
    rfl
theorem jn_spS (s : ByteArray) : jnL (datL (spS s)) = s.data.toList := by
  have : datL (spS s) = spL s.data.toList := spS_data s
  rw [this, jnL_spL]
theorem jnL_mem {b : UInt8} : ∀ (l : List (List UInt8)), b ∈ jnL l → b = 47 ∨ ∃ x ∈ l, b ∈ x
  | [], h => by simp [jnL] at h
  | [x], h => .inr ⟨x, by simp, h⟩
  | x :: y :: l, h => by
    rw [jnL_cons x _ (by simp), List.mem_append, List.mem_cons] at h
    rcases h with h | h | h
    · exact .inr ⟨x, by simp, h⟩
    · exact .inl h
    · rcases jnL_mem (y :: l) h with h | ⟨z, hz, hb⟩
      · exact .inl h
      · exact .inr ⟨z, List.mem_cons_of_mem _ hz, hb⟩
/-- what is right is its own -/
theorem clean_right {s : ByteArray} (h : rightL s.data.toList = true) : cleanS s = s ∧ cleanB s = true := by
  have hp := rightL_parts h
  have hb : bad0 s = false := by
    rw [bad0_eq, Bool.or_eq_false_iff]
    constructor
    · refine decide_eq_false fun e => ?_
      cases hd : s.data.toList with
      | nil => rw [hd] at e; cases e
      | cons a t =>
        rw [hd] at e hp
        injection e with e
        subst e
        rw [spL_slash] at hp
        exact (partL_facts (hp [] (by simp))).2.1 rfl
    · refine decide_eq_false fun e => ?_
      rw [← jnL_spL s.data.toList] at e
      rcases jnL_mem _ e with e | ⟨x, hx, he⟩
      · cases e
      · exact absurd ((partL_facts (hp x hx)).1 0 he) (by decide)
  have ho : cleanO s = some (spS s) := by
    unfold cleanO
    rw [hb, if_neg (by simp), clFold_all]
    · rfl
    · intro x hx
      unfold spS at hx
      obtain ⟨a, ha, rfl⟩ := List.mem_map.1 hx
      obtain ⟨_, f1, f2, f3⟩ := partL_facts (hp a ha)
      exact ⟨fun e => f1 (mkB_inj e), fun e => f2 (mkB_inj e), fun e => f3 (mkB_inj e)⟩
  have hc := clean_some ho
  rw [jn_spS] at hc
  obtain ⟨_, h1, h2⟩ := hc.1 h
  rw [mkB_data] at h1
  exact ⟨h1, h2⟩
theorem clean_out (s : ByteArray) : (cleanB s = true → rightL (cleanS s).data.toList = true) ∧ (cleanB s = false → cleanS s = ⟨#[]⟩) := by
  cases ho : cleanO s with
  | none =>
    have h1 : cleanS s = ⟨#[]⟩ := by unfold cleanS; rw [ho]
    have h2 : cleanB s = false := by unfold cleanB; rw [ho]
    rw [h1, h2]
    exact ⟨fun h => (by cases h), fun _ => rfl⟩
  | some l =>
    have hc := clean_some ho
    cases hr : rightL (jnL (datL l)) with
    | true =>
      obtain ⟨_, h1, h2⟩ := hc.1 hr
      rw [h1, h2, data_mkB]
      exact ⟨fun _ => hr, fun h => by cases h⟩
    | false =>
      obtain ⟨h1, h2⟩ := hc.2 hr
      rw [h1, h2]
      exact ⟨fun h => (by cases h), fun _ => rfl⟩
theorem clean_size (s : ByteArray) : (cleanS s).size ≤ s.size + 1 := by
  cases ho : cleanO s with
  | none =>
    have h1 : cleanS s = ⟨#[]⟩ := by unfold cleanS; rw [ho]
    rw [h1]
    exact Nat.zero_le _
  | some l =>
    have hw : wt l ≤ s.size + 1 := by
      have h := ho
      unfold cleanO at h
      split at h
      · cases h
      · have := clFold_wt _ _ _ h
        rw [spS_wt] at this
        have h0 : wt [] = 0 := rfl
        omega
    have hj := wt_jn l
    have hc := clean_some ho
    cases hr : rightL (jnL (datL l)) with
    | true => rw [(hc.1 hr).2.1, mkB_size]; omega
    | false => rw [(hc.2 hr).1]; exact Nat.zero_le _
def exP : ByteArray := ⟨#[97, 47, 46, 47, 98, 47, 46, 46, 47, 99, 47]⟩
theorem ex_clean : cleanS exP = mkB [97, 47, 99] ∧ cleanB exP = true := by
  constructor
  · kernel_rfl
  · kernel_rfl
end Sw
namespace Go.Proofs.YtlogdionhgabdaaDoor
open Go Go.ChangeShapes Go.WideShapes Go.ChangeAt Go.RowKit
open Go.ChangeMaps (open_string shut_string)
open Sw
end Go.Proofs.YtlogdionhgabdaaDoor
