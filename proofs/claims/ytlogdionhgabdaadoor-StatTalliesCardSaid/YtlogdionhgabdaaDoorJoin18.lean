/- Several texts, joined for the limit of sixty files; each one opens with its own comment. -/
import Derived.Test.YtlogdionhgabdaaDoorJoin1
import Derived.Test.YtlogdionhgabdaaDoorJoin17
import Derived.Test.YtlogdionhgabdaaDoorJoin16
import Derived.Test.YtlogdionhgabdaaDoorChecked
import Derived.Test.YtlogdionhgabdaaDoorJoin6
/- The order of numbers (law 39). -/
set_option linter.unusedVariables false
namespace Sw
def ordI (a b : Int) : Int := if a < b then -1 else if b < a then 1 else 0
def okI (_ : Int) : Prop := True
theorem ordI_zero (a b : Int) (h : ordI a b = 0) : a = b := by
  unfold ordI at h
  split at h
  · omega
  · split at h <;> omega
theorem ordI_neg (a b : Int) : ordI b a = -ordI a b := by
  unfold ordI
  by_cases h1 : a < b
  · rw [if_neg (by omega), if_pos h1, if_pos h1]; rfl
  · by_cases h2 : b < a
    · rw [if_pos h2, if_neg h1, if_pos h2]
    · rw [if_neg h2, if_neg h1, if_neg h1, if_neg h2]; rfl
theorem ordI_lt (a b : Int) : ordI a b < 0 ↔ a < b := by
  unfold ordI
  by_cases h1 : a < b
  · rw [if_pos h1]; omega
  · rw [if_neg h1]
    split <;> omega
theorem ordI_ord : Ord3 ordI := ⟨ordI_zero, ordI_neg, fun a b d h1 h2 => by
  rw [ordI_lt] at *
  omega⟩
end Sw
namespace Go.Proofs.YtlogdionhgabdaaDoor
open Go Go.RowKit
open Sw
set_option maxRecDepth 100000 in
theorem orderI_any (w : World) (a b : Int) (_ : okI a) (_ : okI b) :
    Calls Tryd.prog 6 #[.int .i64 a, .int .i64 b] w fun e w' => e = .returned (.int .i64 (ordI a b)) ∧ Below w.heap.size w w' := by
  unfold ordI
  by_cases h1 : a < b
  · rw [if_pos h1]
    go_enter Tryd.func6, Tryd.ntmps6
    go_wp2_with fail
    go_ret
    exact ⟨rfl, Below.refl _ _⟩
  · rw [if_neg h1]
    by_cases h2 : b < a
    · rw [if_pos h2]
      go_enter Tryd.func6, Tryd.ntmps6
      go_wp2_with fail
      go_ret
      exact ⟨rfl, Below.refl _ _⟩
    · rw [if_neg h2]
      go_enter Tryd.func6, Tryd.ntmps6
      go_wp2_with fail
      go_ret
      exact ⟨rfl, Below.refl _ _⟩
end Go.Proofs.YtlogdionhgabdaaDoor
/- stat's comparison of two tallies: the greater count first. -/
set_option linter.unusedVariables false
set_option linter.unusedSimpArgs false
namespace Go.Proofs.YtlogdionhgabdaaDoor
open Go Go.RowKit
open Sw
theorem statCmp_law : Cmp (fun x y : Int × Int => ordI y.2 x.2) where
  irr := fun x => by rw [ordI_lt]; omega
  asym := fun x y h => by rw [ordI_lt] at *; omega
  trans := fun x y z h k => by rw [ordI_lt] at *; omega
set_option maxRecDepth 100000 in
theorem isNaNI_any (w : World) (x : Int) :
    Calls Tryd.prog 40 #[.int .i64 x] w fun e w' => e = .returned (.bool false) ∧ w' = w := by
  have hx : (x == x) = true := by simp
  go_enter Tryd.func40, Tryd.ntmps40
  go_wp2_with fail
  go_ret
  simp
set_option maxRecDepth 100000 in
theorem compareI_any (w : World) (x y : Int) :
    Calls Tryd.prog 30 #[.int .i64 x, .int .i64 y] w fun e w' => e = .returned (.int .i64 (ordI x y)) ∧ Below w.heap.size w w' := by
  obtain ⟨o, ho⟩ : ∃ o, ordI x y = o := ⟨_, rfl⟩
  rw [ho]
  unfold ordI at ho
  have HO := Lib.hid ho; clear ho
  go_enter Tryd.func30, Tryd.ntmps30
  go_wp2_with fail
  refine (isNaNI_any _ _).mono ?_
  rintro e w2 ⟨rfl, rfl⟩
  go_wp2_with fail
  refine (isNaNI_any _ _).mono ?_
  rintro e w3 ⟨rfl, rfl⟩
  by_cases h1 : x < y
  · obtain rfl : o = -1 := by rw [← HO.out, if_pos h1]
    clear HO
    go_wp2_with fail
    go_ret
    exact ⟨rfl, Below.refl _ _⟩
  · by_cases h2 : y < x
    · obtain rfl : o = 1 := by rw [← HO.out, if_neg h1, if_pos h2]
      clear HO
      go_wp2_with fail
      go_ret
      exact ⟨rfl, Below.refl _ _⟩
    · obtain rfl : o = 0 := by rw [← HO.out, if_neg h1, if_neg h2]
      clear HO
      go_wp2_with fail
      go_ret
      exact ⟨rfl, Below.refl _ _⟩
set_option maxRecDepth 100000 in
set_option maxHeartbeats 2000000 in
theorem statCmp_any (W : World) (x y : Int × Int) :
    Calls Tryd.prog 29 #[.agg (eCPI x).toArray, .agg (eCPI y).toArray] W fun e w' => e = .returned (.int .i64 (ordI y.2 x.2)) ∧ Below W.heap.size W w' := by
  simp only [eCPI]
  go_enter Tryd.func29, Tryd.ntmps29
  go_wp2_with fail
  refine (compareI_any _ _ _).mono ?_
  rintro e w2 ⟨rfl, hb⟩
  go_wp2_with fail
  go_ret
  refine ⟨rfl, ?_⟩
  have hs := fun (u : World) (o : Obj) => ((Below.refl u.heap.size u).alloc (Nat.le_refl _) o).size
  exact (((Below.refl W.heap.size W).alloc (Nat.le_refl _) _).alloc (hs _ _) _).trans (hb.mono (Nat.le_trans (hs _ _) (hs _ _)))
end Go.Proofs.YtlogdionhgabdaaDoor
/- slices.Clone of a row of sorted.entry[int,int]: the same elements, in memory of the call's own. -/
set_option linter.unusedVariables false
set_option linter.unusedSimpArgs false
namespace Go.Proofs.YtlogdionhgabdaaDoor
open Go Go.RowKit
open Sw
theorem infoEII : (Tryd.prog.info? 56).map (fun i => (i.zero, i.size, i.bytes)) = some (some (.agg #[.int .i64 0, .int .i64 0]), 2, 16) := by kernel_rfl
set_option maxRecDepth 100000 in
set_option maxHeartbeats 2000000 in
theorem slCloneII_any {α : Type} (E : α → List Value) (hE : ∀ x, (E x).length = 2) (hE1 : ∀ x, ∀ u ∈ E x, u.oneCell' = true) (w : World) (v : Value) (l : List α) (h : SlV w 2 E v l) (hl : l.length ≤ 1000000) :
    Calls Tryd.prog 25 #[v] w fun e w' => ∃ v', e = .returned v' ∧ w'.ownsRow w.heap.size 56 2 v' l.length (l.flatMap E) ∧ Below w.heap.size w w' := by
  obtain ⟨A, c, rfl, hc1, hc2, hsl⟩ := h
  cases A with
  | none =>
    have h0 : l = [] := by
      cases l with
      | nil => rfl
      | cons a l => obtain ⟨b, off, h, _⟩ := hsl (by simp); cases h
    subst h0
    have hno := World.ownsRow_nil w w.heap.size 56 2
    have HN := Lib.hid hno; clear hno hsl
    have hnl : ∀ W n c, (binOp .eql 52 (.slice none n c) (.slice none 0 0)).run Tryd.prog W = .ok (.bool true) W := fun W n c => Lib.run_eql_slice_nil W 52 56 none n c 0 0 Tryd.underlying52
    go_enter Tryd.func25, Tryd.ntmps25
    go_wp2_with fail
    go_ret
    exact ⟨_, rfl, HN.out, Below.refl _ _⟩
  | some a =>
    obtain ⟨i0, hi, hz0, hz1, hz2⟩ := info_parts infoEII
    have hlen : (l.flatMap E).length = l.length * 2 := flat_len hE l
    have hone : ∀ u ∈ l.flatMap E, u.oneCell' = true := fun u hu => by
      rw [List.mem_flatMap] at hu
      obtain ⟨x, _, hx⟩ := hu
      exact hE1 x u hx
    have hnews : ∀ j u, (l.flatMap E)[j]? = some u → w.cell? (a.add j) = some u := fun j u hj => by
      have hjl := (List.getElem?_eq_some_iff.1 hj).1
      rw [hlen] at hjl
      obtain ⟨b, off, hA, _, hcs⟩ := hsl (by omega)
      rw [Option.some.inj hA, add_mk]
      have hq : j / 2 < l.length := by omega
      have hr : j % 2 < 2 := Nat.mod_lt _ (by omega)
      have hd : j / 2 * 2 + j % 2 = j := by omega
      have h1 := flat_get hE l (j / 2) hq (j % 2) hr
      rw [hd, hj] at h1
      have h2 := hcs (j / 2) hq (j % 2) hr
      rw [Nat.add_assoc, hd] at h2
      rw [h2, ← h1]
    have hnews1 : ∀ (o : Obj) j u, (l.flatMap E)[j]? = some u → (w.alloc o).cell? (a.add j) = some u := fun o j u hj => by
      have h1 := hnews j u hj
      have hlt := World.block_lt_of_cell? w _ h1
      rw [← h1]
      exact ((Below.refl w.heap.size w).alloc (Nat.le_refl _) o).cell hlt
    have hown := World.ownsRow_made (e := 56) (size := 2) (base := w.heap.size) w #[] 0 (Nat.le_refl _) (by decide) (by simp)
    have hbe : Below w.heap.size w (w.alloc (.cells #[] 56)) := (Below.refl _ _).alloc (Nat.le_refl _) _
    have HH := Lib.hid (And.intro hown hbe); clear hown hbe
    have HL := Lib.hid hlen; clear hlen
    have HO := Lib.hid hone; clear hone
    have HW := Lib.hid hnews1; clear hnews1 hnews
    have HI := Lib.hid (And.intro hi (And.intro hz0 (And.intro hz1 hz2))); clear hi hz0 hz1 hz2
    generalize l.flatMap E = xs at *
    generalize l.length = n at *
    have hnl : ∀ W n c, (binOp .eql 52 (.slice (some a) n c) (.slice none 0 0)).run Tryd.prog W = .ok (.bool false) W := fun W n c => Lib.run_eql_slice_nil W 52 56 (some a) n c 0 0 Tryd.underlying52
    go_enter Tryd.func25, Tryd.ntmps25
    go_wp2_with (at_builtin; refine wpList_append_own _ rfl _ _ 52 rfl w.heap.size 56 i0 (.agg #[.int .i64 0, .int .i64 0]) 2 16 Tryd.underlying52 HI.out.1 HI.out.2.1 HI.out.2.2.1 HI.out.2.2.2 rfl (by decide) _ _ _ rfl HH.out.1 a n c xs rfl HL.out (HW.out _) HO.out (by unfold maxLen; omega) (by omega) (by simp) ?_; intro v' w1 hown1 hgrow1 hnil1)
    have HP := Lib.hid (And.intro hown1 hgrow1); clear hown1 hgrow1 hnil1
    go_wp2_with fail
    go_ret
    refine ⟨_, rfl, ?_, HH.out.2.grown HP.out.2 (by simp) (fun k hk => ?_)⟩
    · have := HP.out.1
      simpa using this
    · have : w.heap.size = k := Option.some.inj hk
      omega
end Go.Proofs.YtlogdionhgabdaaDoor
