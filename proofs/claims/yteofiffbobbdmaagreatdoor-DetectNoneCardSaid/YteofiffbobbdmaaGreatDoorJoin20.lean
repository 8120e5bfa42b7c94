/- Several texts, joined for the limit of sixty files; each one opens with its own comment. -/
import Derived.Test.YteofiffbobbdmaaGreatDoorJoin8
import Derived.Test.YteofiffbobbdmaaGreatDoorChecked
import Derived.Test.YteofiffbobbdmaaGreatDoorJoin10
import Derived.RegionTactic
import Derived.BigRegion
import Derived.Test.YteofiffbobbdmaaGreatDoorJoin15
import Derived.Lib.AppendZeros
import Derived.Test.YteofiffbobbdmaaGreatDoorJoin19
import Derived.Test.YteofiffbobbdmaaGreatDoorRows
import Derived.Test.YteofiffbobbdmaaGreatDoorJoin1
import Derived.Deep.WholeRow
import Derived.Laws.BitsAllLaws
/- Two stretches of a row exchanged: plain. -/
set_option linter.unusedVariables false
set_option linter.unusedSimpArgs false
namespace Sw
/-- two stretches of i exchanged -/
def swL {β : Type} (l : List β) (a b i : Nat) : List β := l.mapIdx fun m x => if a ≤ m ∧ m < a + i then (l[b + (m - a)]?).getD x else if b ≤ m ∧ m < b + i then (l[a + (m - b)]?).getD x else x
section
variable {β : Type}
theorem swL_len (l : List β) (a b i : Nat) : (swL l a b i).length = l.length := by simp [swL]
theorem swL_get (l : List β) (a b i m : Nat) (hab : a + i ≤ b) (hb : b + i ≤ l.length) (h : m < l.length) : (swL l a b i)[m]'(by rw [swL_len]; exact h) = if h1 : a ≤ m ∧ m < a + i then l[b + (m - a)]'(by omega) else if h2 : b ≤ m ∧ m < b + i then l[a + (m - b)]'(by omega) else l[m] := by
  simp only [swL, List.getElem_mapIdx]
  split
  · rw [List.getElem?_eq_getElem (by omega)]; rfl
  · split
    · rw [List.getElem?_eq_getElem (by omega)]; rfl
    · rfl
theorem swL_zero (l : List β) (a b : Nat) : swL l a b 0 = l := by
  apply List.ext_getElem
  · exact swL_len l a b 0
  · intro m h1 h2
    simp only [swL, List.getElem_mapIdx]
    rw [if_neg (by omega), if_neg (by omega)]
theorem swL_step (l : List β) (a b i : Nat) (hab : a + i < b) (hb : b + i < l.length) :
    swL l a b (i + 1) = ((swL l a b i).set (a + i) ((swL l a b i)[b + i]'(by rw [swL_len]; exact hb))).set (b + i) ((swL l a b i)[a + i]'(by rw [swL_len]; omega)) := by
  apply List.ext_getElem
  · simp [swL_len]
  · intro m h1 h2
    have h3 : m < l.length := by rw [swL_len] at h1; exact h1
    rw [swL_get l a b (i + 1) m (by omega) (by omega) h3, List.getElem_set, List.getElem_set]
    simp only [swL_get l a b i (b + i) (by omega) (by omega) hb, swL_get l a b i (a + i) (by omega) (by omega) (by omega), swL_get l a b i m (by omega) (by omega) h3]
    by_cases e1 : b + i = m
    · subst e1
      rw [dif_neg (by omega), dif_pos (by omega), if_pos rfl, dif_neg (by omega), dif_neg (by omega)]
      congr 1; omega
    · rw [if_neg e1]
      by_cases e2 : a + i = m
      · subst e2
        rw [dif_pos (by omega), if_pos rfl, dif_neg (by omega), dif_neg (by omega)]
        congr 1; omega
      · rw [if_neg e2]
        by_cases e3 : a ≤ m ∧ m < a + i
        · rw [dif_pos (by omega), dif_pos e3]
        · rw [dif_neg (by omega), dif_neg e3]
          by_cases e4 : b ≤ m ∧ m < b + i
          · rw [dif_pos (by omega), dif_pos e4]
          · rw [dif_neg (by omega), dif_neg e4]
theorem swL_end (P X M Y Q : List β) (h : X.length = Y.length) : swL (P ++ X ++ M ++ Y ++ Q) P.length (P.length + X.length + M.length) X.length = P ++ Y ++ M ++ X ++ Q := by
  apply List.ext_getElem
  · simp only [swL_len, List.length_append]; omega
  · intro m h1 h2
    have h3 : m < (P ++ X ++ M ++ Y ++ Q).length := by rw [swL_len] at h1; exact h1
    rw [swL_get _ _ _ _ m (by omega) (by simp only [List.length_append]; omega) h3]
    simp only [List.length_append] at h3
    split
    · rename_i e
      simp only [List.getElem_append, List.length_append]
      repeat' split
      all_goals first | omega | (congr 1; omega)
    · split
      · rename_i e1 e
        simp only [List.getElem_append, List.length_append]
        repeat' split
        all_goals first | omega | (congr 1; omega)
      · rename_i e1 e2
        simp only [List.getElem_append, List.length_append]
        repeat' split
        all_goals first | omega | (congr 1; omega) | rfl
end
end Sw

/- The parts of slices.SortStableFunc at rows of api.Mark: two stretches exchanged; a stretch turned about. -/
set_option linter.unusedVariables false
set_option linter.unusedSimpArgs false
namespace Go.Proofs.YteofiffbobbdmaaGreatDoor
open Go Go.RowKit
open Sw
def eCMK (e : { s : ByteArray // s.size ≤ 90000 } × Pr) : List Value := [.string e.1.1, .int .i64 e.2.kind, .int .i64 e.2.mode, .int .u32 e.2.time, .int .i64 e.2.size, .int .u32 e.2.sum]
theorem eCMK_len (e : { s : ByteArray // s.size ≤ 90000 } × Pr) : (eCMK e).length = 6 := rfl
set_option maxRecDepth 100000 in
set_option maxHeartbeats 4000000 in
theorem swapRangeMK_any (w : World) (base : Nat) (v cv : Value) (n a b k : Nat) (l : List ({ s : ByteArray // s.size ≤ 90000 } × Pr)) (hl : l.length = n) (hn : n ≤ 1000000) (hab : a + k ≤ b) (hbk : b + k ≤ n) (hown : w.ownsRow base 91 6 v n (l.flatMap eCMK)) :
    Calls Tryz.prog 192 #[v, .int .i64 a, .int .i64 b, .int .i64 k, cv] w fun e w' => e = .returned (.tuple #[]) ∧ w'.ownsRow base 91 6 v n ((swL l a b k).flatMap eCMK) ∧ w.grownBy w' v.ownBlock := by
  have HO := Lib.hid hown
  have HL := Lib.hid hl; clear hl
  obtain ⟨A, c, rfl, hc1, hc2, _⟩ := SlV_of_any hown
  clear hown
  go_enter Tryz.func192, Tryz.ntmps192
  go_wp2_with fail
  go_loopw [10] (fun iv wr => ∃ i : Nat, iv = .int .i64 i ∧ i ≤ k ∧ wr.ownsRow base 91 6 (.slice A n c) n ((swL l a b i).flatMap eCMK) ∧ w.grownBy wr (Value.slice A n c).ownBlock) (fun iv _ => k - (intOf iv).toNat)
  case atStart => exact ⟨0, rfl, Nat.zero_le _, by rw [swL_zero]; exact HO.out, grown_refl _ _⟩
  case round =>
    obtain ⟨i0, rfl, hik, ho, hg⟩ := hrel
    have hrl := swL_len l a b i0
    have HR := Lib.hid (And.intro ho hg); clear ho hg
    by_cases hlt : i0 < k
    · have hi1 : (i0 : Int) < k := by omega
      obtain ⟨i, hi⟩ : ∃ i : Nat, (a : Int) + i0 = i := ⟨a + i0, by omega⟩
      obtain ⟨j, hj⟩ : ∃ j : Nat, (b : Int) + i0 = j := ⟨b + i0, by omega⟩
      have hiE : i = a + i0 := by omega
      have hjE : j = b + i0 := by omega
      have hin : i < n := by omega
      have hjn : j < n := by omega
      obtain ⟨g, cap, cur, hA, hbg, hB, hnc, hcm, hcs, htk⟩ := own_form HR.out.1 (by omega)
      obtain ⟨rfl, rfl⟩ : A = some ⟨g, 0, none⟩ ∧ c = cap := by injection hA with e1 e2 e3; exact ⟨e1, e3⟩
      have hcell := fun (m : Nat) (hm : m < n) (q : Nat) (hq : q < 6) => (by
        have hm' : m < (swL l a b i0).length := by rw [hrl, HL.out]; exact hm
        have h1 := flat_get eCMK_len (swL l a b i0) m hm' q hq
        have h2 : m * 6 + q < n * 6 := by have : (m + 1) * 6 ≤ n * 6 := Nat.mul_le_mul_right _ hm; omega
        rw [hB.cell, ← Array.getElem?_toList, ← h1, ← htk, List.getElem?_take, if_pos h2] : wr.cell? ⟨g, m * 6 + q, none⟩ = (eCMK ((swL l a b i0)[m]'(by rw [hrl, HL.out]; exact hm)))[q]?)
      have hjl : j < (swL l a b i0).length := by rw [hrl, HL.out]; exact hjn
      have hil : i < (swL l a b i0).length := by rw [hrl, HL.out]; exact hin
      have hstep : swL l a b (i0 + 1) = ((swL l a b i0).set i (swL l a b i0)[j]).set j (swL l a b i0)[i] := by
        have := swL_step l a b i0 (by omega) (by have := HL.out; omega)
        simp only [← hiE, ← hjE] at this
        exact this
      obtain ⟨x, hx⟩ : ∃ x, (swL l a b i0)[i] = x := ⟨_, rfl⟩
      obtain ⟨y, hy⟩ : ∃ y, (swL l a b i0)[j] = y := ⟨_, rfl⟩
      have hci := hcell i hin
      have hcj := hcell j hjn
      simp only [hx] at hci
      simp only [hy] at hcj
      rw [hx, hy] at hstep
      have a0 : wr.cell? ⟨g, i * 6, none⟩ = _ := hci 0 (by omega)
      have a1 : wr.cell? ⟨g, i * 6 + 1, none⟩ = _ := hci 1 (by omega)
      have a2 : wr.cell? ⟨g, i * 6 + 2, none⟩ = _ := hci 2 (by omega)
      have a3 : wr.cell? ⟨g, i * 6 + 3, none⟩ = _ := hci 3 (by omega)
      have a4 : wr.cell? ⟨g, i * 6 + 4, none⟩ = _ := hci 4 (by omega)
      have a5 : wr.cell? ⟨g, i * 6 + 5, none⟩ = _ := hci 5 (by omega)
      simp only [eCMK, List.getElem?_cons_succ, List.getElem?_cons_zero] at a0 a1 a2 a3 a4 a5
      have b0 : wr.cell? ⟨g, j * 6, none⟩ = _ := hcj 0 (by omega)
      have b1 : wr.cell? ⟨g, j * 6 + 1, none⟩ = _ := hcj 1 (by omega)
      have b2 : wr.cell? ⟨g, j * 6 + 2, none⟩ = _ := hcj 2 (by omega)
      have b3 : wr.cell? ⟨g, j * 6 + 3, none⟩ = _ := hcj 3 (by omega)
      have b4 : wr.cell? ⟨g, j * 6 + 4, none⟩ = _ := hcj 4 (by omega)
      have b5 : wr.cell? ⟨g, j * 6 + 5, none⟩ = _ := hcj 5 (by omega)
      simp only [eCMK, List.getElem?_cons_succ, List.getElem?_cons_zero] at b0 b1 b2 b3 b4 b5
      have fa0 := hB.frozen (i * 6)
      have fa1 := hB.frozen (i * 6 + 1)
      have fa2 := hB.frozen (i * 6 + 2)
      have fa3 := hB.frozen (i * 6 + 3)
      have fa4 := hB.frozen (i * 6 + 4)
      have fa5 := hB.frozen (i * 6 + 5)
      have fb0 := hB.frozen (j * 6)
      have fb1 := hB.frozen (j * 6 + 1)
      have fb2 := hB.frozen (j * 6 + 2)
      have fb3 := hB.frozen (j * 6 + 3)
      have fb4 := hB.frozen (j * 6 + 4)
      have fb5 := hB.frozen (j * 6 + 5)
      have HST := Lib.hid (by
        have h1 := own_setCells (eCMK y) (i * 6) wr _ HR.out.1 (by rw [eCMK_len]; omega)
        have f1 := flat_put eCMK_len (swL l a b i0) i hil y 0 (eCMK y) (by rw [eCMK_len]; omega) (by simp [eCMK_len])
        simp only [Nat.add_zero] at f1
        rw [f1] at h1
        have h2 := own_setCells (eCMK x) (j * 6) _ _ h1 (by rw [eCMK_len]; omega)
        have f2 := flat_put eCMK_len ((swL l a b i0).set i y) j (by rw [List.length_set]; exact hjl) x 0 (eCMK x) (by rw [eCMK_len]; omega) (by simp [eCMK_len])
        simp only [Nat.add_zero] at f2
        rw [f2, ← hstep] at h2
        exact And.intro h2 (grown_setCells (eCMK x) (j * 6) _ (grown_setCells (eCMK y) (i * 6) wr HR.out.2)))
      clear hcell hci hcj hstep hx hy hB htk hcs hiE hjE
      have q1 : (j : Int) < n := by omega
      have q2 : (i : Int) < n := by omega
      have q3 : i ≠ j := by omega
      have w1 : IntKind.i64.wrap ((i0 : Int) + 1) = i0 + 1 := IntWalk.i64_in _ (by omega)
      go_wp2_with fail
      go_region
      all_goals
        go_wp2_with fail
        go_roundw
        case rel => exact ⟨i0 + 1, by go_num, by omega, own_drew HST.out.1, grown_drew HST.out.2⟩
        case measure => simp [intOf]; omega
    · obtain rfl : i0 = k := by omega
      go_wp2_with fail
      go_end0
      exact ⟨rfl, HR.out.1, HR.out.2⟩
end Go.Proofs.YteofiffbobbdmaaGreatDoor
/- slices.Concat of two rows of marks. -/
set_option linter.unusedVariables false
set_option linter.unusedSimpArgs false
namespace Go.Proofs.YteofiffbobbdmaaGreatDoor
open Go Go.RowKit
open Sw
/-- a mark's cells -/
def eCM (m : ByteArray × Pr) : List Value := [.string m.1, .int .i64 m.2.kind, .int .i64 m.2.mode, .int .u32 m.2.time, .int .i64 m.2.size, .int .u32 m.2.sum]
theorem eCM_len (m : ByteArray × Pr) : (eCM m).length = 6 := rfl
theorem eCM_one (m : ByteArray × Pr) : ∀ u ∈ eCM m, u.oneCell' = true := fun u hu => by
  simp only [eCM, List.mem_cons, List.not_mem_nil, or_false] at hu
  rcases hu with rfl | rfl | rfl | rfl | rfl | rfl <;> rfl
theorem infoMk : (Tryz.prog.info? 91).map (fun i => (i.zero, i.size, i.bytes)) = some (some (.agg #[.string ⟨#[]⟩, .int .i64 0, .int .i64 0, .int .u32 0, .int .i64 0, .int .u32 0]), 6, 56) := by kernel_rfl
set_option maxRecDepth 100000 in
set_option maxHeartbeats 2000000 in
theorem growM_any (w : World) (n : Nat) (hn : n ≤ 1000000) :
    Calls Tryz.prog 106 #[.slice none 0 0, .int .i64 n] w fun e w' => ∃ u, e = .returned u ∧ w'.ownsRow w.heap.size 91 6 u 0 [] ∧ Below w.heap.size w w' := by
  have hw0 : IntKind.i64.wrap ((n : Int) - 0) = n := by rw [IntWalk.i64_in _ (by omega)]; omega
  by_cases h0 : n = 0
  · subst h0
    go_enter Tryz.func106, Tryz.ntmps106
    go_wp2_with fail
    go_ret
    exact ⟨_, rfl, World.ownsRow_nil _ _ _ _, Below.refl _ _⟩
  · have hp : (0 : Int) < n := by omega
    obtain ⟨i, hi, hz, hs2, hb⟩ := info_parts infoMk
    obtain ⟨G, hG⟩ : ∃ G, grownCap w n 0 91 = G := ⟨_, rfl⟩
    have hGn : n ≤ G := by rw [← hG]; exact grownCap_ge w _ _ _
    have hG63 : G ≤ maxLen := by rw [← hG]; exact grownCap_le_maxLen w n 0 91 (by unfold maxLen; omega)
    obtain ⟨R, hR⟩ : ∃ R : Array Value, Builtin.zeroCells (Value.cells (.agg #[.string ⟨#[]⟩, .int .i64 0, .int .i64 0, .int .u32 0, .int .i64 0, .int .u32 0])) n ++ Builtin.zeroCells (Value.cells (.agg #[.string ⟨#[]⟩, .int .i64 0, .int .i64 0, .int .u32 0, .int .i64 0, .int .u32 0])) (G - n) = R := ⟨_, rfl⟩
    have hRl : R.size = G * 6 := by
      rw [← hR]
      simp only [Array.size_append, size_zeroCells]
      simp [Value.cells]
      omega
    obtain ⟨W0, hW0⟩ : ∃ W0, w.drew.alloc (.cells R 91) = W0 := ⟨_, rfl⟩
    have hrz : ∀ ty, (Builtin.append_ #[22, 3] ty #[.slice none 0 0, .int .i64 (n : Int)]).run Tryz.prog w = .ok (.slice (some ⟨w.heap.size, 0, none⟩) n G) W0 := fun ty => by
      have h := Lib.run_append_nil_zeros w 22 3 ty 91 i _ .i64 .i64 Tryz.underlying22 Tryz.underlying3 hi hz n (by omega) (by omega) (by omega) (by rw [hb]; omega)
      rw [h, hG, hR, hW0]
    have HF := Lib.hid (show W0.ownsRow w.heap.size 91 6 (.slice (some ⟨w.heap.size, 0, none⟩) 0 G) 0 [] ∧ Below w.heap.size w W0 from by
      rw [← hW0]
      exact ⟨own_mk (Nat.le_refl _) (Blk.new w.drew _ _) (Nat.zero_le _) hG63 (by rw [hRl]) (by simp), ((Below.refl _ w).drew).alloc (Nat.le_refl _) _⟩)
    have hG0 : (0 : Int) ≤ G := by omega
    clear hRl hR hW0 hG hi hz hs2 hb hG63
    go_enter Tryz.func106, Tryz.ntmps106
    go_wp2_with (at_builtin; refine Lib.wpList_append_run _ rfl _ _ _ _ rfl _ _ rfl rfl _ _ (hrz _) ?_)
    go_ret
    exact ⟨_, rfl, HF.out.1, HF.out.2⟩
set_option maxRecDepth 100000 in
set_option maxHeartbeats 8000000 in
theorem concatM_any (w : World) (g : Nat) (tg : TypeId) (u1 u2 : Value) (l1 l2 : List (ByteArray × Pr)) (hg : Blk w g tg #[u1, u2]) (h1 : SlV w 6 eCM u1 l1) (h2 : SlV w 6 eCM u2 l2) (hl1 : l1.length ≤ 100000) (hl2 : l2.length ≤ 100000) :
    Calls Tryz.prog 72 #[.slice (some ⟨g, 0, none⟩) 2 2] w fun e w' => ∃ u, e = .returned u ∧ w'.ownsRow w.heap.size 91 6 u (l1 ++ l2).length ((l1 ++ l2).flatMap eCM) ∧ Below w.heap.size w w' := by
  have c0 := hg.cell 0
  have c1 := hg.cell 1
  simp at c0 c1
  have HG := Lib.hid (growM_any w (l1.length + l2.length) (by omega))
  have H0 := Lib.hid (And.intro hg (And.intro h1 h2))
  obtain ⟨A1, k1, rfl, _, _, _⟩ := h1
  obtain ⟨A2, k2, rfl, _, _, _⟩ := h2
  obtain ⟨n1, hn1⟩ : ∃ n1, l1.length = n1 := ⟨_, rfl⟩
  obtain ⟨n2, hn2⟩ : ∃ n2, l2.length = n2 := ⟨_, rfl⟩
  have HL := Lib.hid (And.intro hn1 hn2)
  rw [hn1] at HG H0 c0 hl1
  rw [hn2] at HG H0 c1 hl2
  have w1 : IntKind.i64.wrap ((n1 : Int)) = n1 := IntWalk.i64_in _ (by omega)
  have w2 : IntKind.i64.wrap ((n1 : Int) + (n2 : Int)) = ((n1 + n2 : Nat) : Int) := by rw [IntWalk.i64_in _ (by omega)]; omega
  have p1 : ¬ (n1 : Int) < 0 := by omega
  have p2 : ¬ ((n1 + n2 : Nat) : Int) < 0 := by omega
  clear hg hn1 hn2
  go_enter Tryz.func72, Tryz.ntmps72
  go_wp2_with fail
  go_loopw [3, 11] (fun s iv wr => wr = w ∧ ((iv = .int .i64 0 ∧ s = .int .i64 0) ∨ (iv = .int .i64 1 ∧ s = .int .i64 n1) ∨ (iv = .int .i64 2 ∧ s = .int .i64 ((n1 + n2 : Nat) : Int)))) (fun _ iv _ => 2 - (intOf iv).toNat)
  case atStart => exact ⟨rfl, .inl ⟨rfl, rfl⟩⟩
  case round =>
    obtain ⟨hw, h3⟩ := hrel
    rw [hw]
    clear hw
    rcases h3 with ⟨rfl, rfl⟩ | ⟨rfl, rfl⟩ | ⟨rfl, rfl⟩
    · go_wp2_with fail
      go_roundw
      case rel => exact ⟨trivial, .inr (.inl ⟨by go_num, rfl⟩)⟩
      case measure => simp [intOf]
    · go_wp2_with fail
      go_roundw
      case rel => exact ⟨trivial, .inr (.inr ⟨by go_num, rfl⟩)⟩
      case measure => simp [intOf]
    · go_wp2_with fail
      refine HG.out.mono ?_
      rintro e w3 ⟨u, rfl, ho3, hb3⟩
      obtain ⟨A3, k3, rfl, _, _, _⟩ := SlV_of_any ho3
      have H3 := Lib.hid (And.intro ho3 hb3); clear ho3 hb3 HG
      clear wr
      go_wp2_with fail
      go_loopw [6, 27] (fun o iv wr => Below w.heap.size w wr ∧ ((iv = .int .i64 0 ∧ wr.ownsRow w.heap.size 91 6 o 0 []) ∨ (iv = .int .i64 1 ∧ wr.ownsRow w.heap.size 91 6 o (0 + l1.length) ([] ++ l1.flatMap eCM)) ∨ (iv = .int .i64 2 ∧ wr.ownsRow w.heap.size 91 6 o (0 + l1.length + l2.length) ([] ++ l1.flatMap eCM ++ l2.flatMap eCM)))) (fun _ iv _ => 2 - (intOf iv).toNat)
      case atStart => exact ⟨H3.out.2, .inl ⟨rfl, H3.out.1⟩⟩
      case round =>
      obtain ⟨hb, (⟨rfl, ho⟩ | ⟨rfl, ho⟩ | ⟨rfl, ho⟩)⟩ := hrel
      all_goals have hbs := hb.size
      · have e0 := (H0.out.1.below hb H0.out.1.lt).cell 0
        simp at e0
        have hs := H0.out.2.1.below hb (Nat.le_refl _)
        obtain ⟨A4, k4, rfl, _, _, _⟩ := SlV_of_any ho
        have H4 := Lib.hid (And.intro ho (And.intro hb hs)); clear ho hs hb
        go_wp2_with (at_builtin; refine wpList_app_slv rfl _ _ 22 rfl w.heap.size 91 (.agg #[.string ⟨#[]⟩, .int .i64 0, .int .i64 0, .int .u32 0, .int .i64 0, .int .u32 0]) 6 56 Tryz.underlying22 infoMk rfl (by decide) _ 0 _ rfl H4.out.1 eCM eCM_len eCM_one _ l1 rfl H4.out.2.2 (by have := HL.out; omega) (by decide) hbs ?_; intro v5 w5 ho5 hg5)
        obtain ⟨A5, k5, rfl, _, _, _⟩ := SlV_of_any ho5
        have H5 := Lib.hid (And.intro ho5 (H4.out.2.1.grown hg5 hbs (fun q hq => (H4.out.1.lt q hq).1))); clear ho5 hg5
        go_wp2_with fail
        go_roundw
        case rel => exact ⟨H5.out.2, .inr (.inl ⟨by go_num, H5.out.1⟩)⟩
        case measure => simp [intOf]
      · have e0 := (H0.out.1.below hb H0.out.1.lt).cell 1
        simp at e0
        have hs := H0.out.2.2.below hb (Nat.le_refl _)
        obtain ⟨A4, k4, rfl, _, _, _⟩ := SlV_of_any ho
        have H4 := Lib.hid (And.intro ho (And.intro hb hs)); clear ho hs hb
        go_wp2_with (at_builtin; refine wpList_app_slv rfl _ _ 22 rfl w.heap.size 91 (.agg #[.string ⟨#[]⟩, .int .i64 0, .int .i64 0, .int .u32 0, .int .i64 0, .int .u32 0]) 6 56 Tryz.underlying22 infoMk rfl (by decide) _ (0 + l1.length) _ rfl H4.out.1 eCM eCM_len eCM_one _ l2 rfl H4.out.2.2 (by have := HL.out; omega) (by decide) hbs ?_; intro v5 w5 ho5 hg5)
        obtain ⟨A5, k5, rfl, _, _, _⟩ := SlV_of_any ho5
        have H5 := Lib.hid (And.intro ho5 (H4.out.2.1.grown hg5 hbs (fun q hq => (H4.out.1.lt q hq).1))); clear ho5 hg5
        go_wp2_with fail
        go_roundw
        case rel => exact ⟨H5.out.2, .inr (.inr ⟨by go_num, H5.out.1⟩)⟩
        case measure => simp [intOf]
      · obtain ⟨A4, k4, rfl, _, _, _⟩ := SlV_of_any ho
        rw [HL.out.1, HL.out.2]
        have H4 := Lib.hid (And.intro ho hb); clear ho hb
        rw [HL.out.1, HL.out.2] at H4
        go_wp2_with fail
        go_ret
        have h9 : wr.ownsRow w.heap.size 91 6 (.slice A4 (0 + n1 + n2) k4) (l1 ++ l2).length ((l1 ++ l2).flatMap eCM) := by
          rw [List.length_append, List.flatMap_append, HL.out.1, HL.out.2]
          have := H4.out.1
          rw [List.nil_append] at this
          rw [Nat.zero_add] at this ⊢
          exact this
        exact ⟨_, rfl, h9, H4.out.2⟩
end Go.Proofs.YteofiffbobbdmaaGreatDoor
/- Law 29's Light at no marks. -/
set_option linter.unusedVariables false
set_option linter.unusedSimpArgs false
namespace Go.Proofs.YteofiffbobbdmaaGreatDoor
open Go Go.RowKit
open Sw
set_option maxRecDepth 100000 in
set_option maxHeartbeats 4000000 in
theorem light26_nil (w : World) :
    Calls Tryz.prog 26 #[.agg #[.slice none 0 0, .slice none 0 0]] w fun e w' => e = .returned (.bool true) ∧ Below w.heap.size w w' := by
  have hb0 : Below w.heap.size w (w.alloc (.cells #[.slice none 0 0, .slice none 0 0] 24)) := (Below.refl _ w).alloc (Nat.le_refl _) _
  have HB := Lib.hid hb0; clear hb0
  go_enter Tryz.func26, Tryz.ntmps26
  go_wp2_with fail
  go_region
  all_goals
    go_wp2_with fail
    go_loopw [23] (fun iv wr => iv = .int .i64 0 ∧ Below w.heap.size w wr) (fun iv _ => 0)
    case atStart => exact ⟨rfl, by first | exact (HB.out.alloc HB.out.size _).drew | exact HB.out.drew.alloc HB.out.size _⟩
    case round =>
      obtain ⟨rfl, hb⟩ := hrel
      go_wp2_with fail
      go_ret
      exact ⟨rfl, hb⟩
set_option maxRecDepth 100000 in
theorem rises26_nil (w : World) :
    Calls Tryz.prog 59 #[.slice none 0 0] w fun e w' => e = .returned (.bool true) ∧ w' = w := by
  go_enter Tryz.func59, Tryz.ntmps59
  go_wp2_with fail
  go_loopw [7] (fun iv wr => iv = .int .i64 0 ∧ wr = w) (fun iv _ => 0)
  case atStart => exact ⟨rfl, rfl⟩
  case round =>
    obtain ⟨rfl, hw⟩ := hrel
    rw [hw]
    clear hw
    go_wp2_with fail
    go_ret
    exact ⟨rfl, rfl⟩
set_option maxRecDepth 100000 in
theorem right26_nil (w : World) :
    Calls Tryz.prog 27 #[.agg #[.slice none 0 0, .slice none 0 0]] w fun e w' => e = .returned (.bool true) ∧ Below w.heap.size w w' := by
  have hb0 : Below w.heap.size w (w.alloc (.cells #[.slice none 0 0, .slice none 0 0] 24)) := (Below.refl _ w).alloc (Nat.le_refl _) _
  have hB0 := Blk.new w 24 #[.slice none 0 0, .slice none 0 0]
  obtain ⟨W, hW⟩ : ∃ W, w.alloc (.cells #[.slice none 0 0, .slice none 0 0] 24) = W := ⟨_, rfl⟩
  rw [hW] at hb0 hB0
  have x0 := hB0.cell 0
  have x1 := hB0.cell 1
  simp at x0 x1
  have HB := Lib.hid (And.intro hb0 hW); clear hb0 hW hB0
  have HR := Lib.hid (fun W' => rises26_nil W')
  go_enter Tryz.func27, Tryz.ntmps27
  go_wp2_with fail
  rw [HB.out.2]
  go_loopw [10] (fun iv wr => iv = .int .i64 0 ∧ wr = W) (fun iv _ => 0)
  case atStart => exact ⟨rfl, rfl⟩
  case round =>
    obtain ⟨rfl, hw⟩ := hrel
    rw [hw]
    clear hw wr
    go_wp2_with fail
    refine (HR.out _).mono ?_
    rintro e w1 ⟨rfl, rfl⟩
    go_wp2_with fail
    refine (HR.out _).mono ?_
    rintro e w2 ⟨rfl, rfl⟩
    go_wp2_with fail
    go_ret
    exact ⟨rfl, HB.out.1⟩
set_option maxRecDepth 100000 in
set_option maxHeartbeats 2000000 in
theorem light29_nil (w : World) (v : Value) (l : List NE) (h : SlV w 5 eCSN v l) (hin : ∀ x ∈ l, x.1.size ≤ maxLen ∧ NdIn x.2) :
    Calls Tryz.prog 7 #[.agg #[.slice none 0 0, .slice none 0 0], v] w fun e w' => ∃ R : Bool, e = .returned (.bool R) ∧ (R = true → l.length ≤ 30 ∧ (∀ e ∈ l, SmallE e) ∧ putsT [] l = (0, l)) ∧ Below w.heap.size w w' := by
  have hb0 : Below w.heap.size w (w.alloc (.cells #[.slice none 0 0, .slice none 0 0] 24)) := (Below.refl _ w).alloc (Nat.le_refl _) _
  have hB0 := Blk.new w 24 #[.slice none 0 0, .slice none 0 0]
  have HL := Lib.hid (light26_nil (w.alloc (.cells #[.slice none 0 0, .slice none 0 0] 24)))
  have H0 := Lib.hid (And.intro hb0 (And.intro hB0 (And.intro h hin)))
  obtain ⟨A, c, rfl, _, _, _⟩ := h
  clear hb0 hB0 hin
  obtain ⟨n, hn⟩ : ∃ n, l.length = n := ⟨_, rfl⟩
  rw [hn] at H0
  rw [hn]
  have HN := Lib.hid hn; clear hn
  go_enter Tryz.func7, Tryz.ntmps7
  go_wp2_with fail
  refine HL.out.mono ?_
  rintro e w1 ⟨rfl, hb1⟩
  have hB1 := H0.out.2.1.below hb1 H0.out.2.1.lt
  have x0 := hB1.cell 0
  have x1 := hB1.cell 1
  simp at x0 x1
  have H1 := Lib.hid (H0.out.1.trans (hb1.mono H0.out.1.size)); clear hb1 hB1
  have HR := Lib.hid (right26_nil w1)
  go_wp2_with fail
  refine HR.out.mono ?_
  rintro e w2 ⟨rfl, hb2⟩
  have H2 := Lib.hid (H1.out.trans (hb2.mono H1.out.size)); clear hb2 x0 x1
  have HLI := Lib.hid (light16_any w2 (.slice A n c) l (H0.out.2.2.1.below H2.out (Nat.le_refl _)) (fun e he => ⟨(H0.out.2.2.2 e he).1, (H0.out.2.2.2 e he).2.size⟩))
  go_wp2_with fail
  refine HLI.out.mono ?_
  rintro e w3 ⟨R, rfl, hR, hb3⟩
  have H3 := Lib.hid (And.intro (H2.out.trans (hb3.mono H2.out.size)) hR); clear hb3 hR HLI
  cases R with
  | false =>
    go_wp2_with fail
    go_ret
    exact ⟨false, rfl, fun h => (by cases h), H3.out.1⟩
  | true =>
    obtain ⟨hl30, hsm⟩ := H3.out.2 rfl
    have HRR := Lib.hid (ref16Right_any w3 (.slice A n c) l (H0.out.2.2.1.below H3.out.1 (Nat.le_refl _)) (by omega) (fun x hx => ⟨by have := (hsm x hx).1; omega, (H0.out.2.2.2 x hx).2⟩))
    have HSM := Lib.hid (And.intro hl30 hsm); clear hl30 hsm
    go_wp2_with fail
    refine HRR.out.mono ?_
    rintro e w4 ⟨R, rfl, hR, hb4⟩
    have H4 := Lib.hid (And.intro (H3.out.1.trans (hb4.mono H3.out.1.size)) hR); clear hb4 hR HRR
    go_wp2_with fail
    go_ret
    exact ⟨R, rfl, fun h => ⟨HN.out ▸ HSM.out.1, HSM.out.2, H4.out.2.1 h⟩, H4.out.1⟩
end Go.Proofs.YteofiffbobbdmaaGreatDoor
/- Plain laws of layer 2: the sum's steps on numbers. No program in sight. -/
set_option linter.unusedVariables false
namespace Sw
def poly : Nat := 3988292384
/-- one bit's step -/
def stp (x : Nat) : Nat := if x % 2 = 1 then (x / 2) ^^^ poly else x / 2
def stpN : Nat → Nat → Nat
  | 0, x => x
  | k + 1, x => stp (stpN k x)
/-- the state behind a byte -/
@[irreducible] def byteS (s b : Nat) : Nat := stpN 8 (s ^^^ b)
theorem byteS_def (s b : Nat) : byteS s b = stpN 8 (s ^^^ b) := by unfold byteS; rfl
/-- the state behind a text -/
def feedS : Nat → List UInt8 → Nat
  | s, [] => s
  | s, b :: l => feedS (byteS s b.toNat) l
/-- the sum of a text -/
def ofS (l : List UInt8) : Nat := 4294967295 - feedS 4294967295 l
theorem poly_lt : poly < 2 ^ 32 := by decide
theorem stp_lt (x : Nat) (h : x < 2 ^ 32) : stp x < 2 ^ 32 := by
  unfold stp
  split
  · exact Nat.xor_lt_two_pow (by omega) poly_lt
  · omega
theorem stpN_lt (k x : Nat) (h : x < 2 ^ 32) : stpN k x < 2 ^ 32 := by
  induction k with
  | zero => exact h
  | succ k ih => exact stp_lt _ ih
theorem byteS_lt (s b : Nat) (hs : s < 2 ^ 32) (hb : b < 2 ^ 32) : byteS s b < 2 ^ 32 := by rw [byteS_def]; exact stpN_lt _ _ (Nat.xor_lt_two_pow hs hb)
theorem feedS_lt (l : List UInt8) : ∀ (s : Nat), s < 2 ^ 32 → feedS s l < 2 ^ 32 := by
  induction l with
  | nil => intro s h; exact h
  | cons b l ih =>
    intro s h
    have h1 := byteS_lt s b.toNat h (Nat.lt_trans b.toNat_lt (by decide))
    have h2 := ih _ h1
    rw [feedS]
    exact h2
theorem feedS_append (s : Nat) (l m : List UInt8) : feedS s (l ++ m) = feedS (feedS s l) m := by
  induction l generalizing s with
  | nil => rfl
  | cons b l ih => rw [List.cons_append, feedS, ih, feedS]
theorem feedS_cons (s : Nat) (b : UInt8) (m : List UInt8) : feedS s (b :: m) = feedS (byteS s b.toNat) m := by rw [feedS]
theorem xor_mod2 (a b : Nat) : (a ^^^ b) % 2 = (a % 2) ^^^ (b % 2) := by
  have h := Nat.xor_mod_two_pow (a := a) (b := b) (n := 1)
  rw [Nat.pow_one] at h
  exact h
theorem xor_div2 (a b : Nat) : (a ^^^ b) / 2 = (a / 2) ^^^ (b / 2) := by
  have := Nat.shiftRight_xor_distrib (i := 1) (a := a) (b := b)
  simpa [Nat.shiftRight_eq_div_pow] using this
theorem stp_zero : stp 0 = 0 := by decide
theorem stp_xor (a b : Nat) : stp (a ^^^ b) = stp a ^^^ stp b := by
  unfold stp
  rw [xor_mod2, xor_div2]
  have ha : a % 2 = 0 ∨ a % 2 = 1 := by omega
  have hb : b % 2 = 0 ∨ b % 2 = 1 := by omega
  rcases ha with ha | ha <;> rcases hb with hb | hb <;> rw [ha, hb] <;> simp
  · rw [Nat.xor_assoc]
  · rw [Nat.xor_assoc, Nat.xor_assoc, Nat.xor_comm poly (b / 2)]
  · rw [Nat.xor_assoc, ← Nat.xor_assoc poly, Nat.xor_comm poly (b / 2), Nat.xor_assoc, Nat.xor_self, Nat.xor_zero]
theorem stpN_xor (k a b : Nat) : stpN k (a ^^^ b) = stpN k a ^^^ stpN k b := by
  induction k with
  | zero => rfl
  | succ k ih => rw [stpN, stpN, stpN, ih, stp_xor]
theorem stpN_zero (k : Nat) : stpN k 0 = 0 := by
  induction k with
  | zero => rfl
  | succ k ih => rw [stpN, ih, stp_zero]
/-- a number that is a multiple of 2^k is only shifted -/
theorem stpN_shift (k h : Nat) : stpN k (2 ^ k * h) = h := by
  induction k generalizing h with
  | zero => simp [stpN]
  | succ k ih =>
    have e : 2 ^ (k + 1) * h = 2 ^ k * (2 * h) := by rw [Nat.pow_succ, Nat.mul_assoc]
    rw [stpN, e, ih (2 * h)]
    unfold stp
    rw [if_neg (by omega)]
    omega
theorem xor_hi_lo (x : Nat) : (2 ^ 8 * (x / 256)) ^^^ (x % 256) = x := by
  have h := Nat.two_pow_add_eq_or_of_lt (i := 8) (b := x % 256) (by omega) (x / 256)
  have h2 : 2 ^ 8 * (x / 256) ^^^ x % 256 = 2 ^ 8 * (x / 256) + x % 256 := by
    have e := Nat.two_pow_add_eq_or_of_lt (i := 8) (b := x % 256) (by omega) (x / 256)
    rw [e]
    apply Nat.eq_of_testBit_eq
    intro i
    rw [Nat.testBit_xor, Nat.testBit_or, Nat.testBit_two_pow_mul]
    by_cases hi : 8 ≤ i
    · have : (x % 256).testBit i = false := Nat.testBit_lt_two_pow (Nat.lt_of_lt_of_le (Nat.mod_lt x (by omega)) (by
        calc 256 = 2 ^ 8 := rfl
          _ ≤ 2 ^ i := Nat.pow_le_pow_right (by omega) hi))
      simp [this]
    · simp [hi]
  omega
/-- the table's step is the byte's -/
theorem table_step (s b : Nat) (hb : b < 256) : stpN 8 ((s ^^^ b) % 256) ^^^ (s / 256) = byteS s b := by
  have e := xor_hi_lo (s ^^^ b)
  have hd : (s ^^^ b) / 256 = s / 256 := by
    have h := Nat.shiftRight_xor_distrib (i := 8) (a := s) (b := b)
    simp [Nat.shiftRight_eq_div_pow] at h
    have h0 : b / 256 = 0 := by omega
    rw [h, h0, Nat.xor_zero]
  rw [byteS_def, ← e, stpN_xor, stpN_shift, hd, Nat.xor_comm]
  congr 1
  have h2 : ((2 ^ 8 * (s / 256) ^^^ (s ^^^ b) % 256)) % 256 = (s ^^^ b) % 256 := by rw [← hd, e]
  rw [h2]
/-- the reference's bit -/
def refBit (s bit : Nat) : Nat := if (s + bit) % 2 = 1 then (s / 2) ^^^ poly else s / 2
def refN : Nat → Nat → Nat → Nat
  | 0, s, _ => s
  | k + 1, s, b => refBit (refN k s b) (b / 2 ^ k % 2)
theorem stpN_ref (s b k : Nat) : stpN k (s ^^^ b) = refN k s b ^^^ (b / 2 ^ k) := by
  induction k with
  | zero => simp [stpN, refN]
  | succ k ih =>
    rw [stpN, ih, refN]
    generalize refN k s b = x
    have e : b / 2 ^ (k + 1) = b / 2 ^ k / 2 := by rw [Nat.pow_succ, Nat.div_div_eq_div_mul]
    rw [e]
    generalize b / 2 ^ k = y
    unfold stp refBit
    rw [xor_mod2, xor_div2]
    have hx : x % 2 = 0 ∨ x % 2 = 1 := by omega
    have hy : y % 2 = 0 ∨ y % 2 = 1 := by omega
    rcases hx with hx | hx <;> rcases hy with hy | hy <;> rw [hx, hy] <;> simp [Nat.add_mod, hx]
    · rw [Nat.xor_assoc, Nat.xor_assoc, Nat.xor_comm poly]
    · rw [Nat.xor_assoc, Nat.xor_assoc, Nat.xor_comm poly]
theorem refN_8 (s b : Nat) (hb : b < 256) : refN 8 s b = byteS s b := by
  have h := stpN_ref s b 8
  have h0 : b / 2 ^ 8 = 0 := by omega
  rw [h0, Nat.xor_zero] at h
  rw [byteS_def]
  exact h.symm
theorem refN_lt (k s b : Nat) (hs : s < 2 ^ 32) : refN k s b < 2 ^ 32 := by
  induction k with
  | zero => exact hs
  | succ k ih =>
    rw [refN]
    unfold refBit
    split
    · exact Nat.xor_lt_two_pow (by omega) poly_lt
    · omega
theorem not_xor (x : Nat) (h : x < 2 ^ 32) : 4294967295 - x = x ^^^ 4294967295 := by
  have e : 2 ^ 32 - (x + 1) = x ^^^ (2 ^ 32 - 1) := by
    apply Nat.eq_of_testBit_eq
    intro i
    rw [Nat.testBit_two_pow_sub_succ h, Nat.testBit_xor, Nat.testBit_two_pow_sub_one]
    by_cases hi : i < 32
    · simp [hi]
    · have : x.testBit i = false := Nat.testBit_lt_two_pow (Nat.lt_of_lt_of_le h (Nat.pow_le_pow_right (by omega) (by omega)))
      simp [hi, this]
  have e2 : 2 ^ 32 - 1 = 4294967295 := rfl
  rw [e2] at e
  omega
end Sw

/- The contract of sum.Made: the table of the states behind all bytes. -/
set_option linter.unusedVariables false
namespace Go.Proofs.YteofiffbobbdmaaGreatDoor
open Go.RowKit
open Sw
/-- a row of cells is the table -/
def IsTab (cs : Array Value) : Prop := cs.size = 256 ∧ ∀ i, i < 256 → cs[i]? = some (.int .u32 (stpN 8 i : Nat))
theorem info_tab : ∃ v : Array Value, (Tryz.prog.info? 186).map (fun i => (i.zero, i.size)) = some (some (.agg v), 256) ∧ v.size = 256 := ⟨Array.replicate 256 (.int .u32 0), by kernel_rfl, by kernel_rfl⟩
theorem stp_walk_odd (x : Nat) (hx : x < 4294967296) (h : x % 2 = 1) : bits .xor .u32 ((x : Int) / 2) 3988292384 = (stp x : Nat) := by
  have e : ((x : Int) / 2) = ((x / 2 : Nat) : Int) := by omega
  rw [e]
  have := u32_xor_nat (x / 2) 3988292384 (by omega) (by omega)
  rw [stp, if_pos h, poly]
  exact this
theorem stp_walk_even (x : Nat) (h : ¬ x % 2 = 1) : (x : Int) / 2 = (stp x : Nat) := by
  rw [stp, if_neg h]; omega
theorem and_walk (x : Nat) (hx : x < 4294967296) : bits .and .u32 (x : Int) 1 = ((x % 2 : Nat) : Int) := by
  have := u32_and_nat x 1 hx (by omega)
  rw [Nat.and_one_is_mod] at this
  exact this
set_option maxRecDepth 100000 in
set_option maxHeartbeats 1000000 in
theorem made_any (w : World) : Calls Tryz.prog 130 #[] w fun e w' => ∃ cs, e = .returned (.agg cs) ∧ IsTab cs ∧ Below w.heap.size w w' := by
  obtain ⟨v, hv, hvs⟩ := info_tab
  obtain ⟨hz, hzi⟩ := zero_of_info hv
  have HV := Lib.hid hvs; clear hvs
  have HZI := Lib.hid hzi; clear hzi hv
  go_enter Tryz.func130, Tryz.ntmps130
  go_wp2
  clear hz
  go_loopw [1, 2, 3] (fun _ _ t wr => ∃ k : Nat, k ≤ 256 ∧ t = .int .i64 k ∧ (∃ cs : Array Value, Blk wr w.heap.size 186 cs ∧ cs.size = 256 ∧ ∀ i, i < k → cs[i]? = some (.int .u32 (stpN 8 i : Nat))) ∧ Below w.heap.size w wr) (fun _ _ t _ => 256 - (intOf t).toNat)
  case atStart => exact ⟨0, Nat.zero_le _, rfl, ⟨_, Blk.new _ _ _, HV.out, fun i hi => by omega⟩, (Below.refl _ _).alloc (Nat.le_refl _) _⟩
  case round =>
    obtain ⟨k, hk, rfl, ⟨cs, hcs, hsz, hat⟩, hb⟩ := hrel
    by_cases hlt : k < 256
    · have hf := Blk.frozen hcs k
      have hc : wr.cell? ⟨w.heap.size, k, none⟩ = some (cs[k]'(by omega)) := by rw [Blk.cell hcs k]; exact Array.getElem?_eq_getElem (by omega)
      generalize cs[k]'(by omega) = old at hc
      have HAT := Lib.hid hat; clear hat
      have HSZ := Lib.hid hsz; clear hsz
      go_wp2
      go_loop [2, 8] (fun x t => ∃ j : Nat, j ≤ 8 ∧ t = .int .i64 j ∧ x = .int .u32 (stpN j k : Nat)) (fun _ t => 8 - (intOf t).toNat)
      case atStart => exact ⟨0, Nat.zero_le _, rfl, rfl⟩
      case round =>
        obtain ⟨j, hj, rfl, rfl⟩ := hrel
        by_cases hjl : j < 8
        · have hx := stpN_lt j k (by omega)
          have ha := and_walk (stpN j k) hx
          by_cases ho : stpN j k % 2 = 1
          · have hst := stp_walk_odd (stpN j k) hx ho
            rw [ho] at ha
            have HST := Lib.hid hst; clear hst ho hx
            go_wp2
            exact ⟨⟨j + 1, by omega, by go_num, by rw [HST.out, stpN]⟩, by simp [intOf]; omega⟩
          · have hst := stp_walk_even (stpN j k) ho
            have ho' : stpN j k % 2 = 0 := by omega
            rw [ho'] at ha
            have HST := Lib.hid hst; clear hst ho hx ho'
            go_wp2
            exact ⟨⟨j + 1, by omega, by go_num, by rw [HST.out, stpN]⟩, by simp [intOf]; omega⟩
        · obtain rfl : j = 8 := by omega
          go_wp2
          go_roundw
          case rel =>
            refine ⟨k + 1, by omega, by go_num, ⟨_, Blk.put hcs k _, by simpa using HSZ.out, fun i hi => ?_⟩, hb.setCell (Nat.le_refl _) _⟩
            rw [Array.getElem?_setIfInBounds]
            by_cases hik : k = i
            · subst hik
              rw [if_pos rfl, if_pos (by have := HSZ.out; omega)]
            · rw [if_neg hik]
              exact HAT.out i (by omega)
          case measure => simp [intOf]; omega
    · obtain rfl : k = 256 := by omega
      have hi : (Tryz.prog.info? 186).map (·.size) = some cs.size := by rw [hsz]; exact HZI.out
      have HI := Lib.hid hi; clear hi
      have HAT := Lib.hid hat; clear hat
      have HSZ := Lib.hid hsz; clear hsz
      have hone : cs.all (·.oneCell') = true := by
        rw [Array.all_eq_true]
        intro i hi
        have h := HAT.out i (by have := HSZ.out; omega)
        rw [Array.getElem?_eq_getElem hi] at h
        injection h with h
        rw [h]; rfl
      have HO := Lib.hid hone; clear hone
      go_wp2_with (first | (refine wpList_load_row rfl 186 _ rfl w.heap.size rfl 186 cs (0, 0) _ hcs Tryz.underlying186 rfl HI.out ?_) | (refine wpList_store_row rfl 186 _ _ rfl w.heap.size cs rfl rfl 186 cs hcs HI.out rfl HO.out ?_))
      refine bodyPost_ret (results_cell_row rfl _ _ w.heap.size 186 cs (0, 0) _ rfl (setRow_heap wr w.heap.size cs cs _ _ hcs) Tryz.underlying186 rfl HI.out) rfl ⟨cs, rfl, ⟨HSZ.out, HAT.out⟩, hb.trans ?_⟩
      exact ⟨rfl, rfl, rfl, by simp, fun i hi => setRow_other wr w.heap.size i cs (by omega)⟩
end Go.Proofs.YteofiffbobbdmaaGreatDoor
