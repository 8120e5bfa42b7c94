/- Several texts, joined for the limit of sixty files; each one opens with its own comment. -/
import Derived.Test.YtlogdionhgabdaaDoorChecked
import Derived.Test.YtlogdionhgabdaaDoorJoin6
import Derived.RegionTactic
import Derived.BigRegion
/- Two stretches of a row exchanged: plain. -/
set_option linter.unusedVariables false
set_option linter.unusedSimpArgs false
namespace Sw
/-- two stretches of i exchanged -/
def swL {β : Type} (l : List β) (a b i : Nat) : List β := l.mapIdx fun m x => if a ≤ m ∧ m < a + i then (l[b + (m - a)]?).getD x else if b ≤ m ∧ m < b + i then (l[a + (m - b)]?).getD x else x
section
variable {β : Type}
theorem swL_len (l : List β) (a b i : Nat) : (swL l a b i).length = l.length := by simp [swL]
theorem swL_get (l : List β) (a b i m : Nat) (hab : a + i ≤ b) (hb : b + i ≤ l.length) (h : m < l.length) : (swL l a b i)[m]'(by rw [swL_len]; exact h) = if h1 : a ≤ m ∧ m < a + i then l[b + (m - a)]'(by omega) else if h2 : b ≤ m ∧ m < b + i then l[a + (m - b)]'(by omega) else l[m] := by
  simp only [swL, List.getElem_mapIdx]
  split
  · rw [List.getElem?_eq_getElem (by omega)]; rfl
  · split
    · rw [List.getElem?_eq_getElem (by omega)]; rfl
    · rfl
theorem swL_zero (l : List β) (a b : Nat) : swL l a b 0 = l := by
  apply List.ext_getElem
  · exact swL_len l a b 0
  · intro m h1 h2
    simp only [swL, List.getElem_mapIdx]
    rw [if_neg (by omega), if_neg (by omega)]
theorem swL_step (l : List β) (a b i : Nat) (hab : a + i < b) (hb : b + i < l.length) :
    swL l a b (i + 1) = ((swL l a b i).set (a + i) ((swL l a b i)[b + i]'(by rw [swL_len]; exact hb))).set (b + i) ((swL l a b i)[a + i]'(by rw [swL_len]; omega)) := by
  apply List.ext_getElem
  · simp [swL_len]
  · intro m h1 h2
    have h3 : m < l.length := by rw [swL_len] at h1; exact h1
    rw [swL_get l a b (i + 1) m (by omega) (by omega) h3, List.getElem_set, List.getElem_set]
    simp only [swL_get l a b i (b + i) (by omega) (by omega) hb, swL_get l a b i (a + i) (by omega) (by omega) (by omega), swL_get l a b i m (by omega) (by omega) h3]
    by_cases e1 : b + i = m
    · subst e1
      rw [dif_neg (by omega), dif_pos (by omega), if_pos rfl, dif_neg (by omega), dif_neg (by omega)]
      congr 1; omega
    · rw [if_neg e1]
      by_cases e2 : a + i = m
      · subst e2
        rw [dif_pos (by omega), if_pos rfl, dif_neg (by omega), dif_neg (by omega)]
        congr 1; omega
      · rw [if_neg e2]
        by_cases e3 : a ≤ m ∧ m < a + i
        · rw [dif_pos (by omega), dif_pos e3]
        · rw [dif_neg (by omega), dif_neg e3]
          by_cases e4 : b ≤ m ∧ m < b + i
          · rw [dif_pos (by omega), dif_pos e4]
          · rw [dif_neg (by omega), dif_neg e4]
theorem swL_end (P X M Y Q : List β) (h : X.length = Y.length) : swL (P ++ X ++ M ++ Y ++ Q) P.length (P.length + X.length + M.length) X.length = P ++ Y ++ M ++ X ++ Q := by
  apply List.ext_getElem
  · simp only [swL_len, List.length_append]; omega
  · intro m h1 h2
    have h3 : m < (P ++ X ++ M ++ Y ++ Q).length := by rw [swL_len] at h1; exact h1
    rw [swL_get _ _ _ _ m (by omega) (by simp only [List.length_append]; omega) h3]
    simp only [List.length_append] at h3
    split
    · rename_i e
      simp only [List.getElem_append, List.length_append]
      repeat' split
      all_goals first | omega | (congr 1; omega)
    · split
      · rename_i e1 e
        simp only [List.getElem_append, List.length_append]
        repeat' split
        all_goals first | omega | (congr 1; omega)
      · rename_i e1 e2
        simp only [List.getElem_append, List.length_append]
        repeat' split
        all_goals first | omega | (congr 1; omega) | rfl
end
end Sw

/- The parts of slices.SortStableFunc at rows of stat.pair[int]: two stretches exchanged; a stretch turned about. -/
set_option linter.unusedVariables false
set_option linter.unusedSimpArgs false
namespace Go.Proofs.YtlogdionhgabdaaDoor
open Go Go.RowKit
open Sw
def eCPI (e : Int × Int) : List Value := [.int .i64 e.1, .int .i64 e.2]
theorem eCPI_len (e : Int × Int) : (eCPI e).length = 2 := rfl
set_option maxRecDepth 100000 in
set_option maxHeartbeats 4000000 in
theorem swapRangePI_any (w : World) (base : Nat) (v cv : Value) (n a b k : Nat) (l : List (Int × Int)) (hl : l.length = n) (hn : n ≤ 1000000) (hab : a + k ≤ b) (hbk : b + k ≤ n) (hown : w.ownsRow base 61 2 v n (l.flatMap eCPI)) :
    Calls Tryd.prog 61 #[v, .int .i64 a, .int .i64 b, .int .i64 k, cv] w fun e w' => e = .returned (.tuple #[]) ∧ w'.ownsRow base 61 2 v n ((swL l a b k).flatMap eCPI) ∧ w.grownBy w' v.ownBlock := by
  have HO := Lib.hid hown
  have HL := Lib.hid hl; clear hl
  obtain ⟨A, c, rfl, hc1, hc2, _⟩ := SlV_of_any hown
  clear hown
  go_enter Tryd.func61, Tryd.ntmps61
  go_wp2_with fail
  go_loopw [10] (fun iv wr => ∃ i : Nat, iv = .int .i64 i ∧ i ≤ k ∧ wr.ownsRow base 61 2 (.slice A n c) n ((swL l a b i).flatMap eCPI) ∧ w.grownBy wr (Value.slice A n c).ownBlock) (fun iv _ => k - (intOf iv).toNat)
  case atStart => exact ⟨0, rfl, Nat.zero_le _, by rw [swL_zero]; exact HO.out, grown_refl _ _⟩
  case round =>
    obtain ⟨i0, rfl, hik, ho, hg⟩ := hrel
    have hrl := swL_len l a b i0
    have HR := Lib.hid (And.intro ho hg); clear ho hg
    by_cases hlt : i0 < k
    · have hi1 : (i0 : Int) < k := by omega
      obtain ⟨i, hi⟩ : ∃ i : Nat, (a : Int) + i0 = i := ⟨a + i0, by omega⟩
      obtain ⟨j, hj⟩ : ∃ j : Nat, (b : Int) + i0 = j := ⟨b + i0, by omega⟩
      have hiE : i = a + i0 := by omega
      have hjE : j = b + i0 := by omega
      have hin : i < n := by omega
      have hjn : j < n := by omega
      obtain ⟨g, cap, cur, hA, hbg, hB, hnc, hcm, hcs, htk⟩ := own_form HR.out.1 (by omega)
      obtain ⟨rfl, rfl⟩ : A = some ⟨g, 0, none⟩ ∧ c = cap := by injection hA with e1 e2 e3; exact ⟨e1, e3⟩
      have hcell := fun (m : Nat) (hm : m < n) (q : Nat) (hq : q < 2) => (by
        have hm' : m < (swL l a b i0).length := by rw [hrl, HL.out]; exact hm
        have h1 := flat_get eCPI_len (swL l a b i0) m hm' q hq
        have h2 : m * 2 + q < n * 2 := by have : (m + 1) * 2 ≤ n * 2 := Nat.mul_le_mul_right _ hm; omega
        rw [hB.cell, ← Array.getElem?_toList, ← h1, ← htk, List.getElem?_take, if_pos h2] : wr.cell? ⟨g, m * 2 + q, none⟩ = (eCPI ((swL l a b i0)[m]'(by rw [hrl, HL.out]; exact hm)))[q]?)
      have hjl : j < (swL l a b i0).length := by rw [hrl, HL.out]; exact hjn
      have hil : i < (swL l a b i0).length := by rw [hrl, HL.out]; exact hin
      have hstep : swL l a b (i0 + 1) = ((swL l a b i0).set i (swL l a b i0)[j]).set j (swL l a b i0)[i] := by
        have := swL_step l a b i0 (by omega) (by have := HL.out; omega)
        simp only [← hiE, ← hjE] at this
        exact this
      obtain ⟨x, hx⟩ : ∃ x, (swL l a b i0)[i] = x := ⟨_, rfl⟩
      obtain ⟨y, hy⟩ : ∃ y, (swL l a b i0)[j] = y := ⟨_, rfl⟩
      have hci := hcell i hin
      have hcj := hcell j hjn
      simp only [hx] at hci
      simp only [hy] at hcj
      rw [hx, hy] at hstep
      have a0 : wr.cell? ⟨g, i * 2, none⟩ = _ := hci 0 (by omega)
      have a1 : wr.cell? ⟨g, i * 2 + 1, none⟩ = _ := hci 1 (by omega)
      simp only [eCPI, List.getElem?_cons_succ, List.getElem?_cons_zero] at a0 a1
      have b0 : wr.cell? ⟨g, j * 2, none⟩ = _ := hcj 0 (by omega)
      have b1 : wr.cell? ⟨g, j * 2 + 1, none⟩ = _ := hcj 1 (by omega)
      simp only [eCPI, List.getElem?_cons_succ, List.getElem?_cons_zero] at b0 b1
      have fa0 := hB.frozen (i * 2)
      have fa1 := hB.frozen (i * 2 + 1)
      have fb0 := hB.frozen (j * 2)
      have fb1 := hB.frozen (j * 2 + 1)
      have HST := Lib.hid (by
        have h1 := own_setCells (eCPI y) (i * 2) wr _ HR.out.1 (by rw [eCPI_len]; omega)
        have f1 := flat_put eCPI_len (swL l a b i0) i hil y 0 (eCPI y) (by rw [eCPI_len]; omega) (by simp [eCPI_len])
        simp only [Nat.add_zero] at f1
        rw [f1] at h1
        have h2 := own_setCells (eCPI x) (j * 2) _ _ h1 (by rw [eCPI_len]; omega)
        have f2 := flat_put eCPI_len ((swL l a b i0).set i y) j (by rw [List.length_set]; exact hjl) x 0 (eCPI x) (by rw [eCPI_len]; omega) (by simp [eCPI_len])
        simp only [Nat.add_zero] at f2
        rw [f2, ← hstep] at h2
        exact And.intro h2 (grown_setCells (eCPI x) (j * 2) _ (grown_setCells (eCPI y) (i * 2) wr HR.out.2)))
      clear hcell hci hcj hstep hx hy hB htk hcs hiE hjE
      have q1 : (j : Int) < n := by omega
      have q2 : (i : Int) < n := by omega
      have q3 : i ≠ j := by omega
      have w1 : IntKind.i64.wrap ((i0 : Int) + 1) = i0 + 1 := IntWalk.i64_in _ (by omega)
      go_wp2_with fail
      go_region
      all_goals
        go_wp2_with fail
        go_roundw
        case rel => exact ⟨i0 + 1, by go_num, by omega, own_drew HST.out.1, grown_drew HST.out.2⟩
        case measure => simp [intOf]; omega
    · obtain rfl : i0 = k := by omega
      go_wp2_with fail
      go_end0
      exact ⟨rfl, HR.out.1, HR.out.2⟩
end Go.Proofs.YtlogdionhgabdaaDoor
