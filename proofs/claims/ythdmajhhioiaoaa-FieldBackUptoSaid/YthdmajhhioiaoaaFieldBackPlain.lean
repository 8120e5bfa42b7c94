/- FieldBack: what is written, and what is read of it. Plain Lean but for the contracts' own words. -/
import Derived.Test.YthdmajhhioiaoaaWriterLen
import Derived.Test.YthdmajhhioiaoaaFieldNum
set_option linter.unusedVariables false
namespace Go.Proofs.Ythdmajhhioiaoaa
open Go.RowKit
open Sw
def kOf (n : Int) : Nat := (max 0 (min n 8)).toNat
theorem kOf_le (n : Int) : kOf n ≤ 8 := by unfold kOf; omega
theorem kOf_eq (n : Int) : max 0 (min n 8) = (kOf n : Int) := by unfold kOf; omega
structure Rec where
  x : Nat
  k : Int
  t : ByteArray
def recL (r : Rec) : List UInt8 := putL r.x (kOf r.k) ++ r.t.data.toList ++ r.t.data.toList
def recsL (l : List Rec) : List UInt8 := l.flatMap recL
theorem recsL_take (l : List Rec) (k : Nat) (h : k < l.length) : recsL (l.take (k + 1)) = recsL (l.take k) ++ recL l[k] := by
  unfold recsL
  rw [List.take_succ_eq_append_getElem h, List.flatMap_append]; simp
theorem recL_len (r : Rec) : (recL r).length = kOf r.k + 2 * r.t.size := by
  have : r.t.data.toList.length = r.t.size := by rw [Array.length_toList]; rfl
  simp only [recL, List.length_append, putL_length, this]; omega
theorem recsL_split (l : List Rec) (k : Nat) (h : k < l.length) : recsL l = recsL (l.take k) ++ (recL l[k] ++ recsL (l.drop (k + 1))) := by
  conv => lhs; rw [← List.take_append_drop (k + 1) l]
  have : recsL (l.take (k + 1) ++ l.drop (k + 1)) = recsL (l.take (k + 1)) ++ recsL (l.drop (k + 1)) := by unfold recsL; rw [List.flatMap_append]
  rw [this, recsL_take l k h, List.append_assoc]
theorem recsL_le (l : List Rec) : (recsL l).length ≤ 8 * l.length + 2 * (l.map fun r => r.t.size).sum := by
  induction l with
  | nil => simp [recsL]
  | cons r l ih =>
    have h1 := recL_len r
    have h2 := kOf_le r.k
    have : (recsL (r :: l)).length = (recL r).length + (recsL l).length := by simp [recsL]
    rw [this]
    simp only [List.length_cons, List.map_cons, List.sum_cons]
    omega
theorem recsL_take_le (l : List Rec) (k : Nat) : (recsL (l.take k)).length ≤ (recsL l).length := by
  conv => rhs; rw [← List.take_append_drop k l]
  have : recsL (l.take k ++ l.drop k) = recsL (l.take k) ++ recsL (l.drop k) := by unfold recsL; rw [List.flatMap_append]
  rw [this, List.length_append]; omega
/-- a piece of a text that is known in parts -/
theorem extract_mid (s : ByteArray) (a b c : List UInt8) (h : s.data.toList = a ++ (b ++ c)) (p n : Nat) (hp : p = a.length) (hn : n = b.length) : (s.extract p (p + n)).data.toList = b := by
  subst hp hn
  have : (s.extract a.length (a.length + b.length)).data.toList = (s.data.toList.take (a.length + b.length)).drop a.length := by
    rw [ByteArray.data_extract, Array.toList_extract, List.extract_eq_take_drop, List.drop_take]
  rw [this, h, ← List.append_assoc, List.take_left' (by simp), List.drop_left' rfl]
theorem rd_mid (s : ByteArray) (a b c : List UInt8) (h : s.data.toList = a ++ (b ++ c)) (p n : Nat) (hp : p = a.length) (hn : n = b.length) :
    canRead s p false n = true ∧ (rdText s p false n).data.toList = b ∧ rdAt s p false n = p + n ∧ rdBad s p false n = false := by
  have hsz : s.size = a.length + (b.length + c.length) := by
    have : s.data.toList.length = s.size := by rw [Array.length_toList]; rfl
    rw [← this, h]; simp
  have hc : canRead s p false n = true := by simp [canRead]; omega
  refine ⟨hc, ?_, ?_, ?_⟩
  · unfold rdText; rw [if_pos hc]; exact extract_mid s a b c h p n hp hn
  · unfold rdAt; rw [if_pos hc]; rfl
  · unfold rdBad; rw [hc]; rfl
theorem byteArray_of (s t : ByteArray) (h : s.data.toList = t.data.toList) : s = t := by
  cases s; cases t
  congr 1
  exact Array.toList_inj.1 h
theorem run_min_ints4 {P : Program} (w : World) (ts : Array TypeId) (t : TypeId) (k : IntKind) (x y z u : Int) :
    (Builtin.min_ ts t #[.int k x, .int k y, .int k z, .int k u]).run P w = .ok (.int k (min (min (min x y) z) u)) w := by
  have e : ∀ a b : Int, (if b < a then b else a) = min a b := fun a b => by
    rw [Int.min_def]
    split <;> split <;> omega
  simp [Builtin.min_, Builtin.min2, e]
end Go.Proofs.Ythdmajhhioiaoaa
