/- Contracts of lz.Plain and of the reference's Bytes and Same. -/
import Derived.Test.YthmlfeaoaanmoaaLzLong
import Derived.Test.YthmlfeaoaanmoaaSlMore
import Derived.Test.YthmlfeaoaanmoaaGrow
set_option linter.unusedVariables false
set_option linter.unusedSimpArgs false
namespace Sw
open Go
/-- a token -/
structure Tk where
  byte : Int
  long : Int
  back : Int
def tkC (t : Tk) : List Value := [.int .u8 t.byte, .int .i64 t.long, .int .i64 t.back]
theorem tkC_len (t : Tk) : (tkC t).length = 3 := rfl
def rowT (l : List Tk) : List Value := l.flatMap tkC
theorem rowT_snoc (l : List Tk) (t : Tk) : rowT (l ++ [t]) = rowT l ++ tkC t := by simp [rowT]
def litT (b : UInt8) : Tk := ⟨(b.toNat : Int), 0, 0⟩
def litsT (l : List UInt8) : List Tk := l.map litT
theorem litsT_take (s : ByteArray) (k : Nat) (h : k < s.size) : litsT (s.data.toList.take (k + 1)) = litsT (s.data.toList.take k) ++ [litT s[k]] := by
  rw [List.take_succ_eq_append_getElem (by simpa using h)]
  unfold litsT
  rw [List.map_append]
  rfl
theorem litsT_len (s : ByteArray) (k : Nat) (h : k ≤ s.size) : (litsT (s.data.toList.take k)).length = k := by
  rw [litsT, List.length_map, List.length_take]
  have : s.data.toList.length = s.size := by simp
  omega
end Sw
namespace Go.Proofs.Ythmlfeaoaanmoaa
open Go.RowKit
open Sw
theorem info_tk : (Try.prog.info? 80).map (fun i => (i.zero, i.size, i.bytes)) = some (some (.agg #[.int .u8 0, .int .i64 0, .int .i64 0]), 3, 24) := by kernel_rfl
/-- tokens that the call made -/
def TokPost (l : List Tk) (w : World) (e : Ending) (w' : World) : Prop := ∃ v, e = .returned v ∧ w'.ownsRow w.heap.size 80 3 v l.length (rowT l) ∧ Below w.heap.size w w'
set_option maxRecDepth 100000 in
set_option maxHeartbeats 4000000 in
theorem plain_big (w : World) (s : ByteArray) (hs : s.size ≤ maxLen) (h : 65000 < s.size) :
    Calls Try.prog 40 #[.string s] w (TokPost [] w) := by
  unfold maxLen at hs
  have hf := Lib.hid (show TokPost [] w (.returned (.slice none 0 0)) w from ⟨_, rfl, ⟨rfl, .inl ⟨rfl, rfl⟩⟩, Below.refl _ _⟩)
  go_enter Try.func40, Try.ntmps40
  go_wp2_with fail
  go_ret
  exact hf.out
set_option maxRecDepth 100000 in
set_option maxHeartbeats 4000000 in
theorem plain_any (w : World) (s : ByteArray) (hs : s.size ≤ 65000) :
    Calls Try.prog 40 #[.string s] w (TokPost (litsT s.data.toList) w) := by
  have HF := Lib.hid (fun v w' (h : w'.ownsRow w.heap.size 80 3 v s.size (rowT (litsT s.data.toList))) (hb : Below w.heap.size w w') => (show TokPost (litsT s.data.toList) w (.returned v) w' from ⟨_, rfl, by
    have hl : (litsT s.data.toList).length = s.size := by simp [litsT]
    rw [hl]; exact h, hb⟩))
  go_enter Try.func40, Try.ntmps40
  go_wp2_with fail
  go_loopw [2, 3, 9] (fun o _ t wr => ∃ k : Nat, k ≤ s.size ∧ t = .int .i64 k ∧ wr.ownsRow w.heap.size 80 3 o k (rowT (litsT (s.data.toList.take k))) ∧ Below w.heap.size w wr) (fun _ _ t _ => s.size - (intOf t).toNat)
  case atStart => exact ⟨0, Nat.zero_le _, rfl, ⟨rfl, .inl ⟨rfl, rfl⟩⟩, Below.refl _ _⟩
  case round =>
    obtain ⟨k, hk, rfl, hown, hbw⟩ := hrel
    by_cases hlt : k < s.size
    · have hrs : rowT (litsT (s.data.toList.take (k + 1))) = rowT (litsT (s.data.toList.take k)) ++ tkC (litT s[k]) := by rw [litsT_take s k hlt, rowT_snoc]
      unfold tkC litT at hrs
      have HRS := Lib.hid hrs; clear hrs
      have HO := Lib.hid hown; clear hown
      have hk6 : k + 1 ≤ 1000000 := by omega
      go_wp2_with (refine wpList_app rfl _ _ 69 rfl w.heap.size 80 (.agg #[.int .u8 0, .int .i64 0, .int .i64 0]) 3 24 Try.underlying69 info_tk rfl (by omega) u2 k (rowT (litsT (s.data.toList.take k))) (by simp [Act.eval, Act.put]) (own_kept HO.out ((Below.refl _ _).alloc (Nat.le_refl _) _)) wr.heap.size 1 _ _ (by simp [Act.eval, Act.put]) (Blk.new _ _ _) rfl (by simp [Value.oneCell']) hk6 (by omega) (by have := hbw.size; simp; omega) _ rfl ?_; intro g2 cap2 w5 ho2 hg2 hat2 hlt2)
      have hw5 : Below w.heap.size w w5 := own_below HO.out (hbw.alloc hbw.size _) hg2 (Nat.le_refl _) (by have := hbw.size; simp; omega)
      go_roundw
      case rel => exact ⟨k + 1, by omega, by go_num, by rw [HRS.out]; exact ho2, hw5⟩
      case measure => simp [intOf]; omega
    · obtain rfl : k = s.size := by omega
      have ht : s.data.toList.take s.size = s.data.toList := List.take_of_length_le (by simp)
      rw [ht] at hown
      have HFIN := Lib.hid (HF.out _ _ hown hbw)
      clear hown ht HF
      go_wp2_with fail
      go_ret
      exact HFIN.out
set_option maxRecDepth 100000 in
set_option maxHeartbeats 4000000 in
theorem refBytes_any (w : World) (s : ByteArray) (hs : s.size ≤ 65000) :
    Calls Try.prog 41 #[.string s] w (TokPost (litsT s.data.toList) w) := by
  have HF := Lib.hid (fun v w' (h : w'.ownsRow w.heap.size 80 3 v s.size (rowT (litsT s.data.toList))) (hb : Below w.heap.size w w') => (show TokPost (litsT s.data.toList) w (.returned v) w' from ⟨_, rfl, by
    have hl : (litsT s.data.toList).length = s.size := by simp [litsT]
    rw [hl]; exact h, hb⟩))
  go_enter Try.func41, Try.ntmps41
  go_wp2_with fail
  go_loopw [3, 4] (fun o t wr => ∃ k : Nat, k ≤ s.size ∧ t = .int .i64 k ∧ wr.ownsRow w.heap.size 80 3 o k (rowT (litsT (s.data.toList.take k))) ∧ Below w.heap.size w wr) (fun _ t _ => s.size - (intOf t).toNat)
  case atStart => exact ⟨0, Nat.zero_le _, rfl, ⟨rfl, .inl ⟨rfl, rfl⟩⟩, Below.refl _ _⟩
  case round =>
    obtain ⟨k, hk, rfl, hown, hbw⟩ := hrel
    by_cases hlt : k < s.size
    · have hrs : rowT (litsT (s.data.toList.take (k + 1))) = rowT (litsT (s.data.toList.take k)) ++ tkC (litT s[k]) := by rw [litsT_take s k hlt, rowT_snoc]
      unfold tkC litT at hrs
      have HRS := Lib.hid hrs; clear hrs
      have HO := Lib.hid hown; clear hown
      have hk6 : k + 1 ≤ 1000000 := by omega
      go_wp2_with (refine wpList_app rfl _ _ 69 rfl w.heap.size 80 (.agg #[.int .u8 0, .int .i64 0, .int .i64 0]) 3 24 Try.underlying69 info_tk rfl (by omega) u3 k (rowT (litsT (s.data.toList.take k))) (by simp [Act.eval, Act.put]) (own_kept HO.out ((Below.refl _ _).alloc (Nat.le_refl _) _)) wr.heap.size 1 _ _ (by simp [Act.eval, Act.put]) (Blk.new _ _ _) rfl (by simp [Value.oneCell']) hk6 (by omega) (by have := hbw.size; simp; omega) _ rfl ?_; intro g2 cap2 w5 ho2 hg2 hat2 hlt2)
      have hw5 : Below w.heap.size w w5 := own_below HO.out (hbw.alloc hbw.size _) hg2 (Nat.le_refl _) (by have := hbw.size; simp; omega)
      go_roundw
      case rel => exact ⟨k + 1, by omega, by go_num, by rw [HRS.out]; exact ho2, hw5⟩
      case measure => simp [intOf]; omega
    · obtain rfl : k = s.size := by omega
      have ht : s.data.toList.take s.size = s.data.toList := List.take_of_length_le (by simp)
      rw [ht] at hown
      have HFIN := Lib.hid (HF.out _ _ hown hbw)
      clear hown ht HF
      go_wp2_with fail
      go_ret
      exact HFIN.out
set_option maxRecDepth 100000 in
set_option maxHeartbeats 4000000 in
theorem refSame_yes (w : World) (A1 A2 : Option Addr) (c1 c2 n : Nat) (l : List Tk) (hl : l.length = n) (hn : n ≤ 9223372036854775807) (h1 : SlOf w 3 tkC A1 l) (h2 : SlOf w 3 tkC A2 l) :
    Calls Try.prog 39 #[.slice A1 n c1, .slice A2 n c2] w fun e w' => e = .returned (.bool true) ∧ ∃ m, w' = w.drewN m := by
  have HS1 := Lib.hid h1; clear h1
  have HS2 := Lib.hid h2; clear h2
  have HL := Lib.hid hl; clear hl
  go_enter Try.func39, Try.ntmps39
  go_wp2_with fail
  go_loopw [4, 5, 13] (fun o _ t wr => ∃ i m : Nat, i ≤ n ∧ t = .int .i64 i ∧ o = .bool false ∧ wr = w.drewN m) (fun _ _ t _ => n - (intOf t).toNat)
  case atStart => exact ⟨0, 0, Nat.zero_le _, rfl, rfl, rfl⟩
  case round =>
    obtain ⟨i, m, hi, rfl, rfl, rfl⟩ := hrel
    by_cases hin : i < n
    · have hil : i < l.length := by have := HL.out; omega
      obtain ⟨b1, o1, rfl, hb1, hcs1⟩ := HS1.out (by omega)
      obtain ⟨b2, o2, rfl, hb2, hcs2⟩ := HS2.out (by omega)
      have d0 := hcs1 i hil 0 (by omega)
      have d1 := hcs1 i hil 1 (by omega)
      have d2 := hcs1 i hil 2 (by omega)
      have d3 := hcs2 i hil 0 (by omega)
      have d4 := hcs2 i hil 1 (by omega)
      have d5 := hcs2 i hil 2 (by omega)
      simp [tkC] at d0 d1 d2 d3 d4 d5
      clear hcs1 hcs2
      generalize l[i].byte = x0 at *
      generalize l[i].long = x1 at *
      generalize l[i].back = x2 at *
      have hi0 : (0 : Int) ≤ i := by omega
      have hi1 : (i : Int) < n := by omega
      go_wp2_with fail
      go_quiet (fail)
      go_wp2_with fail
      go_roundw
      case rel => exact ⟨i + 1, _, by omega, by go_num, rfl, rfl⟩
      case measure => simp [intOf]; omega
    · obtain rfl : i = n := by omega
      clear HS1 HS2
      go_wp2_with fail
      go_ret
      exact ⟨rfl, _, rfl⟩
end Go.Proofs.Ythmlfeaoaanmoaa
