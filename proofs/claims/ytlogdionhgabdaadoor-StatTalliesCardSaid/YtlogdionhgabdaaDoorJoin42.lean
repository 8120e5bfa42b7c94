/- Several texts, joined for the limit of sixty files; each one opens with its own comment. -/
import Derived.Test.YtlogdionhgabdaaDoorJoin39
import Derived.Test.YtlogdionhgabdaaDoorJoin41
import Derived.Test.YtlogdionhgabdaaDoorJoin19
/- Contracts of the reference's Part and Split. -/
set_option linter.unusedVariables false
set_option linter.unusedSimpArgs false
namespace Go.Proofs.YtlogdionhgabdaaDoor
open Go Go.RowKit
open Sw
/-- a text as it lies -/
def bE (t : ByteArray) : List Value := [.string t]
theorem bE_len (t : ByteArray) : (bE t).length = 1 := rfl
theorem info_str : (Tryd.prog.info? 9).map (fun i => (i.zero, i.size, i.bytes)) = some (some (.string ByteArray.empty), 1, 16) := by kernel_rfl
/-- texts that the call made -/
def StrPost (l : List ByteArray) (w : World) (e : Ending) (w' : World) : Prop := ∃ v, e = .returned v ∧ w'.ownsRow w.heap.size 9 1 v l.length (l.flatMap bE) ∧ Below w.heap.size w w'
theorem mkB_cat (cur : List UInt8) (s : ByteArray) (i : Nat) (h : i < s.size) : mkB cur ++ s.extract i (i + 1) = mkB (cur ++ [s[i]]) := by
  apply ByteArray.ext
  rw [ByteArray.data_append, ByteArray.data_extract]
  apply Array.ext'
  rw [Array.toList_append, Array.toList_extract, List.extract_eq_take_drop]
  have hd : s.data.toList.drop i = s[i] :: s.data.toList.drop (i + 1) := by rw [List.drop_eq_getElem_cons (by simpa using h)]; rfl
  rw [hd, show i + 1 - i = 1 by omega]
  simp [mkB]
theorem flat_snoc (l : List ByteArray) (x : ByteArray) : (l ++ [x]).flatMap bE = l.flatMap bE ++ [.string x] := by simp [bE]
end Go.Proofs.YtlogdionhgabdaaDoor
/- The contract of name.Right. -/
set_option linter.unusedVariables false
set_option linter.unusedSimpArgs false
namespace Sw
open Go Go.RowKit
/-- what stands ahead of the first slash -/
def headS (s : ByteArray) : ByteArray := mkB ((spL s.data.toList).headD [])
theorem head_hit {X : ByteArray} {i : Nat} (h : Lib.indexByte X.data.toList 47 = i) : headS X = X.extract 0 i := by
  have h2 := (spS_hit h).2
  unfold spS at h2
  unfold headS
  cases hs : spL X.data.toList with
  | nil => exact absurd hs (spL_ne _)
  | cons a t =>
    rw [hs, List.map_cons] at h2
    injection h2
theorem head_miss {X : ByteArray} (h : Lib.indexByte X.data.toList 47 = -1) : headS X = X := by
  have h2 := spS_miss h
  unfold spS at h2
  unfold headS
  cases hs : spL X.data.toList with
  | nil => exact absurd hs (spL_ne _)
  | cons a t =>
    rw [hs, List.map_cons] at h2
    injection h2
end Sw
namespace Go.Proofs.YtlogdionhgabdaaDoor
open Go Go.RowKit Go.Shelf
open Sw
attribute [local go_sem] Oper.semAt_some
set_option maxRecDepth 100000 in
set_option maxHeartbeats 1000000 in
theorem cutLite_any (w : World) (s : ByteArray) (hs : s.size ≤ 1000000) :
    Calls Tryd.prog 51 #[.string s, .string ⟨#[47]⟩] w fun e w' => (∃ r b, e = .returned (.tuple #[.string (headS s), .string r, .bool b])) ∧ ∃ m, w' = w.drewN m := by
  have hix := Tryd.stringslite_Index_one s 47 w
  have hge := Lib.indexByte_ge s.data.toList 47
  obtain ⟨j, hj⟩ : ∃ j, Lib.indexByte s.data.toList 47 = j := ⟨_, rfl⟩
  rw [hj] at hix hge
  have HIX := Lib.hid hix; clear hix
  by_cases h0 : j < 0
  · obtain rfl : j = -1 := by omega
    have hh := Lib.hid (head_miss hj)
    clear hj hge
    go_enter Tryd.func51, Tryd.ntmps51
    go_wp2_with fail
    refine HIX.out.mono ?_
    rintro e w1 ⟨rfl, rfl⟩
    go_wp2_with fail
    go_ret3
    exact ⟨⟨_, _, by rw [hh.out]; first | done | rfl⟩, 0, rfl⟩
  · obtain ⟨i, rfl⟩ := Int.eq_ofNat_of_zero_le (show 0 ≤ j by omega)
    obtain ⟨hiX, _⟩ := spS_hit hj
    have hh := Lib.hid (head_hit hj)
    clear hj hge
    have hi1 : (i : Int) + 1 ≤ s.size := by omega
    go_enter Tryd.func51, Tryd.ntmps51
    go_wp2_with fail
    refine HIX.out.mono ?_
    rintro e w1 ⟨rfl, rfl⟩
    go_wp2_with fail
    go_region
    go_wp2_with fail
    go_ret3
    exact ⟨⟨_, _, by rw [hh.out]; first | done | rfl⟩, _, rfl⟩
set_option maxRecDepth 100000 in
theorem cut_any (w : World) (s : ByteArray) (hs : s.size ≤ 1000000) :
    Calls Tryd.prog 42 #[.string s, .string ⟨#[47]⟩] w fun e w' => (∃ r b, e = .returned (.tuple #[.string (headS s), .string r, .bool b])) ∧ ∃ m, w' = w.drewN m := by
  have HC := Lib.hid (cutLite_any w s hs)
  go_enter Tryd.func42, Tryd.ntmps42
  go_wp2_with fail
  refine HC.out.mono ?_
  rintro e w1 ⟨⟨r, b, rfl⟩, m, rfl⟩
  go_wp2_with fail
  go_ret3
  exact ⟨⟨_, _, rfl⟩, _, rfl⟩
set_option maxRecDepth 100000 in
theorem reserved_any (w : World) :
    Calls Tryd.prog 43 #[] w fun e w' => e = .returned (.string ⟨#[46, 115, 119, 105, 110, 103, 108, 101]⟩) ∧ w = w' := by
  go_enter Tryd.func43, Tryd.ntmps43
  go_wp2_with fail
  go_ret
  exact ⟨rfl, rfl⟩
end Go.Proofs.YtlogdionhgabdaaDoor
