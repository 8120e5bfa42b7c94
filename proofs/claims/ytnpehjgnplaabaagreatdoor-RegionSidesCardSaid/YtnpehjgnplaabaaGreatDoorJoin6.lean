/- Several texts, joined for the limit of sixty files; each one opens with its own comment. -/
import Derived.Test.YtnpehjgnplaabaaGreatDoorJoin5
import Derived.Test.YtnpehjgnplaabaaGreatDoorJoin1
import Derived.Lib.LastIndexByte
import Derived.Test.YtnpehjgnplaabaaGreatDoorJoin2
import Derived.Lib.Bytealg
import Derived.Lib.EndianMore
/- Several texts, joined for the limit of sixty files; each one opens with its own comment. -/
/- The walk of NameCleans. -/
set_option linter.unusedVariables false
set_option linter.unusedSimpArgs false
namespace Sw
open Go Go.RowKit
theorem rightL_parts {p : List UInt8} (h : rightL p = true) : ∀ x ∈ spL p, partL x = true := by
  unfold rightL at h
  rw [Bool.and_eq_true] at h
  exact fun x hx => List.all_eq_true.1 h.2 x hx
theorem jn_spS (s : ByteArray) : jnL (datL (spS s)) = s.data.toList := by
  have : datL (spS s) = spL s.data.toList := spS_data s
  rw [this, jnL_spL]
end Sw
namespace Go.Proofs.YtnpehjgnplaabaaGreatDoor
open Go Go.ChangeShapes Go.WideShapes Go.ChangeAt Go.RowKit
open Go.ChangeMaps (open_string shut_string)
open Sw
end Go.Proofs.YtnpehjgnplaabaaGreatDoor
/- Plain laws of name.Parent, Base, Ups. -/
set_option linter.unusedVariables false
set_option linter.unusedSimpArgs false
namespace Sw
open Go Go.RowKit
open Go.Proofs.YtnpehjgnplaabaaGreatDoor (partsS)
theorem spL_last : ∀ (a r : List UInt8), (47 : UInt8) ∉ r → spL (a ++ 47 :: r) = spL a ++ [r]
  | [], r, h => by rw [List.nil_append, spL_slash, spL_none r h]; rfl
  | b :: a, r, h => by
    have ih := spL_last a r h
    rw [List.cons_append, spL, ih, spL]
    split
    · rfl
    · cases hs : spL a with
      | nil => exact absurd hs (spL_ne a)
      | cons x t => rfl
def parentS (s : ByteArray) : ByteArray := mkB (jnL (datL (partsS s).dropLast))
def baseS (s : ByteArray) : ByteArray := (partsS s).getLastD ⟨#[]⟩
/-- the ups of a path, the shortest first -/
def upsS (s : ByteArray) : List ByteArray := (List.range ((partsS s).length - 1)).map fun k => mkB (jnL (datL ((partsS s).take (k + 1))))
theorem partsS_right {s : ByteArray} (h : rightL s.data.toList = true) : partsS s = spS s := by
  unfold partsS
  rw [if_pos h]
theorem partsS_not {s : ByteArray} (h : rightL s.data.toList = false) : partsS s = [] := by
  unfold partsS
  rw [if_neg (by rw [h]; simp)]
theorem parent_not {s : ByteArray} (h : rightL s.data.toList = false) : parentS s = ⟨#[]⟩ ∧ baseS s = ⟨#[]⟩ := by
  unfold parentS baseS
  rw [partsS_not h]
  exact ⟨rfl, rfl⟩
/-- the last slash of a text -/
theorem last_hit {s : ByteArray} {i : Nat} (hi : i < s.size) (h1 : ((s.data[i]!).toNat : Int) = 47) (h2 : ∀ j, i < j → j < s.size → ((s.data[j]!).toNat : Int) ≠ 47) : spS s = spS (s.extract 0 i) ++ [s.extract (i + 1) s.size] := by
  have hl : s.data.toList.length = s.size := by simp
  have hget : ∀ j (h : j < s.size), s.data[j]! = s.data.toList[j]'(by omega) := fun j h => by
    rw [getElem!_pos s.data j h]
    simp
  have hno : (47 : UInt8) ∉ s.data.toList.drop (i + 1) := by
    intro hm
    obtain ⟨k, hk, hke⟩ := List.getElem_of_mem hm
    rw [List.length_drop] at hk
    rw [List.getElem_drop] at hke
    refine h2 (i + 1 + k) (by omega) (by omega) ?_
    rw [hget _ (by omega), hke]
    rfl
  have he : s.data.toList[i]'(by omega) = 47 := by
    rw [hget i hi] at h1
    have h47 : (s.data.toList[i]'(by omega)).toNat = 47 := by omega
    exact UInt8.toNat_inj.1 (h47.trans rfl)
  unfold spS
  have hd : s.data.toList = s.data.toList.take i ++ 47 :: s.data.toList.drop (i + 1) := by
    conv => lhs; rw [← List.take_append_drop i s.data.toList]
    rw [List.drop_eq_getElem_cons (by omega), he]
  conv => lhs; rw [hd]
  rw [spL_last _ _ hno, List.map_append, List.map_singleton, ext_take]
  congr 1
  rw [← ext_drop, mkB_data]
theorem last_miss {s : ByteArray} (h : ∀ j, j < s.size → ((s.data[j]!).toNat : Int) ≠ 47) : spS s = [s] := by
  have hl : s.data.toList.length = s.size := by simp
  have hno : (47 : UInt8) ∉ s.data.toList := by
    intro hm
    obtain ⟨k, hk, hke⟩ := List.getElem_of_mem hm
    refine h k (by omega) ?_
    rw [getElem!_pos s.data k (by show k < s.size; omega)]
    have : s.data[k]'(by show k < s.size; omega) = s.data.toList[k]'hk := by simp
    rw [this, hke]
    rfl
  unfold spS
  rw [spL_none _ hno, List.map_singleton, mkB_data]
theorem rightL_len {p : List UInt8} (h : rightL p = true) : p.length ≤ 200 ∧ (spL p).length ≤ 12 ∧ (spL p).headD [] ≠ resL := by
  unfold rightL at h
  simp only [Bool.and_eq_true, decide_eq_true_eq] at h
  exact ⟨h.1.1.1, h.1.1.2, h.1.2⟩
/-- the first parts of a path are a path -/
theorem right_take {s : ByteArray} (h : rightL s.data.toList = true) (k : Nat) (hk : 1 ≤ k) : rightL (jnL (datL ((spS s).take k))) = true ∧ spS (mkB (jnL (datL ((spS s).take k)))) = (spS s).take k := by
  have hp := rightL_parts h
  obtain ⟨h1, h2, h3⟩ := rightL_len h
  have hd : datL ((spS s).take k) = (spL s.data.toList).take k := by
    unfold datL
    rw [List.map_take]
    congr 1
    exact spS_data s
  have hne : (spL s.data.toList).take k ≠ [] := by
    intro e
    have := congrArg List.length e
    rw [List.length_take, List.length_nil] at this
    have hpos := List.length_pos_iff.2 (spL_ne s.data.toList)
    omega
  have hsp : spL (jnL ((spL s.data.toList).take k)) = (spL s.data.toList).take k := spL_jnL _ hne (fun x hx => spL_no _ x (List.mem_of_mem_take hx))
  rw [hd]
  constructor
  · unfold rightL
    rw [hsp]
    have hl : (jnL ((spL s.data.toList).take k)).length ≤ 200 := by
      have := jnL_take_le (spL s.data.toList) k
      rw [jnL_spL] at this
      omega
    have hh : ((spL s.data.toList).take k).headD [] = (spL s.data.toList).headD [] := by
      obtain ⟨k', rfl⟩ : ∃ k', k = k' + 1 := ⟨k - 1, by omega⟩
      cases spL s.data.toList <;> rfl
    rw [decide_eq_true hl, decide_eq_true (show ((spL s.data.toList).take k).length ≤ 12 by rw [List.length_take]; omega), hh, decide_eq_true h3]
    simp only [Bool.true_and, List.all_eq_true]
    exact fun x hx => hp x (List.mem_of_mem_take hx)
  · unfold spS
    rw [data_mkB, hsp, ← List.map_take]
/-- where a walk up a path stands -/
def pAt (U : List ByteArray) (k : Nat) : ByteArray := if h : 0 < k ∧ k ≤ U.length then U[k - 1]'(by omega) else ⟨#[]⟩
theorem upsS_len (s : ByteArray) : (upsS s).length = (partsS s).length - 1 := by
  unfold upsS
  rw [List.length_map, List.length_range]
theorem upsS_at (s : ByteArray) (k : Nat) (h : k < (upsS s).length) : (upsS s)[k] = mkB (jnL (datL ((partsS s).take (k + 1)))) := by
  have hl := upsS_len s
  have h2 : (upsS s)[k]? = some (mkB (jnL (datL ((partsS s).take (k + 1))))) := by
    unfold upsS
    rw [List.getElem?_map, List.getElem?_range (by omega)]
    rfl
  exact (List.getElem?_eq_some_iff.1 h2).2
theorem ups_pAt (s : ByteArray) (k : Nat) (h : k ≤ (upsS s).length) : pAt (upsS s) k = mkB (jnL (datL ((partsS s).take k))) := by
  unfold pAt
  by_cases h0 : 0 < k
  · rw [dif_pos ⟨h0, h⟩, upsS_at, show k - 1 + 1 = k by omega]
  · rw [dif_neg (by omega), show k = 0 by omega]
    rfl
theorem ups_start (s : ByteArray) : parentS s = pAt (upsS s) (upsS s).length := by
  rw [ups_pAt s _ (Nat.le_refl _), upsS_len]
  unfold parentS
  rw [List.dropLast_eq_take]
theorem ups_step (s : ByteArray) (k : Nat) (h : k < (upsS s).length) : parentS (upsS s)[k] = pAt (upsS s) k ∧ (upsS s)[k].size ≤ 200 ∧ rightL (upsS s)[k].data.toList = true := by
  have hlen := upsS_len s
  have hr : rightL s.data.toList = true := by
    cases hr : rightL s.data.toList with
    | true => rfl
    | false => rw [partsS_not hr, List.length_nil] at hlen; omega
  have hps := partsS_right hr
  obtain ⟨h1, h2⟩ := right_take hr (k + 1) (by omega)
  rw [ups_pAt s k (by omega), upsS_at, hps]
  rw [hps] at hlen
  have hq : partsS (mkB (jnL (datL ((spS s).take (k + 1))))) = (spS s).take (k + 1) := by
    rw [partsS_right (by rw [data_mkB]; exact h1), h2]
  refine ⟨?_, ?_, by rw [data_mkB]; exact h1⟩
  · unfold parentS
    rw [hq, List.dropLast_eq_take, List.take_take, List.length_take]
    congr 4
    omega
  · rw [mkB_size]
    exact (rightL_len h1).1
theorem pAt_succ (U : List ByteArray) (k : Nat) (h : k < U.length) : pAt U (k + 1) = U[k] := by
  unfold pAt
  rw [dif_pos ⟨by omega, by omega⟩]
  rfl
theorem right_pos {s : ByteArray} (h : rightL s.data.toList = true) : 0 < s.size := by
  by_cases h0 : s.size = 0
  · have : s.data.toList = [] := List.length_eq_zero_iff.1 (by simpa using h0)
    rw [this, rightL_nil] at h
    cases h
  · omega
end Sw
/- Plain laws of how two paths stand. -/
set_option linter.unusedVariables false
set_option linter.unusedSimpArgs false
namespace Sw
open Go Go.RowKit
open Go.Proofs.YtnpehjgnplaabaaGreatDoor (partsS)
open Go.Lib (compareBytes)
theorem u8_tri (a b : UInt8) (h1 : ¬ a < b) (h2 : ¬ b < a) : a = b := UInt8.le_antisymm (UInt8.not_lt.1 h2) (UInt8.not_lt.1 h1)
theorem cb_refl : ∀ a : List UInt8, compareBytes a a = 0
  | [] => rfl
  | x :: a => by rw [compareBytes, if_neg (UInt8.lt_irrefl x), if_neg (UInt8.lt_irrefl x), cb_refl a]
theorem cb_neg : ∀ a b : List UInt8, compareBytes b a = -compareBytes a b
  | [], [] => rfl
  | [], _ :: _ => rfl
  | _ :: _, [] => rfl
  | x :: a, y :: b => by
    rw [compareBytes, compareBytes]
    by_cases h1 : x < y
    · rw [if_pos h1, if_neg (UInt8.lt_asymm h1), if_pos h1]
      rfl
    · by_cases h2 : y < x
      · rw [if_pos h2, if_neg h1, if_pos h2]
      · rw [if_neg h2, if_neg h1, if_neg h1, if_neg h2, cb_neg a b]
theorem cb_three : ∀ a b : List UInt8, compareBytes a b = -1 ∨ compareBytes a b = 0 ∨ compareBytes a b = 1
  | [], [] => .inr (.inl rfl)
  | [], _ :: _ => .inl rfl
  | _ :: _, [] => .inr (.inr rfl)
  | x :: a, y :: b => by
    rw [compareBytes]
    split
    · exact .inl rfl
    · split
      · exact .inr (.inr rfl)
      · exact cb_three a b
theorem cb_zero : ∀ a b : List UInt8, compareBytes a b = 0 → a = b
  | [], [], _ => rfl
  | [], _ :: _, h => by simp [compareBytes] at h
  | _ :: _, [], h => by simp [compareBytes] at h
  | x :: a, y :: b, h => by
    rw [compareBytes] at h
    split at h
    · cases h
    · rename_i h1
      split at h
      · cases h
      · rename_i h2
        rw [u8_tri x y h1 h2, cb_zero a b h]
theorem cb_zero_iff (a b : List UInt8) : compareBytes a b = 0 ↔ a = b := ⟨cb_zero a b, fun h => by subst h; exact cb_refl a⟩
theorem less_cb : ∀ a b : List UInt8, Op.bytesLess a b = decide (compareBytes a b = -1)
  | [], [] => rfl
  | [], _ :: _ => rfl
  | _ :: _, [] => rfl
  | x :: a, y :: b => by
    rw [Op.bytesLess, compareBytes, less_cb a b]
    by_cases h1 : x < y
    · rw [if_pos h1, decide_eq_true h1]; rfl
    · by_cases h2 : y < x
      · have hne : (x == y) = false := by
          rw [beq_eq_false_iff_ne]
          intro e
          subst e
          exact UInt8.lt_irrefl _ h2
        rw [if_neg h1, if_pos h2, decide_eq_false h1, hne]
        rfl
      · have := u8_tri x y h1 h2
        subst this
        rw [if_neg h1, if_neg h1, decide_eq_false h1, beq_self_eq_true]
        simp
/-- how two rows of texts stand -/
def cL : List ByteArray → List ByteArray → Int
  | [], [] => 0
  | [], _ :: _ => -1
  | _ :: _, [] => 1
  | x :: a, y :: b => if compareBytes x.data.toList y.data.toList = 0 then cL a b else compareBytes x.data.toList y.data.toList
theorem cL_refl : ∀ a : List ByteArray, cL a a = 0
  | [] => rfl
  | x :: a => by rw [cL, if_pos (cb_refl _), cL_refl a]
theorem cL_neg : ∀ a b : List ByteArray, cL b a = -cL a b
  | [], [] => rfl
  | [], _ :: _ => rfl
  | _ :: _, [] => rfl
  | x :: a, y :: b => by
    rw [cL, cL, cb_neg x.data.toList y.data.toList, cL_neg a b]
    by_cases h : compareBytes x.data.toList y.data.toList = 0
    · rw [if_pos (by omega), if_pos h]
    · rw [if_neg (by omega), if_neg h]
theorem cL_three : ∀ a b : List ByteArray, cL a b = -1 ∨ cL a b = 0 ∨ cL a b = 1
  | [], [] => .inr (.inl rfl)
  | [], _ :: _ => .inl rfl
  | _ :: _, [] => .inr (.inr rfl)
  | x :: a, y :: b => by
    rw [cL]
    split
    · exact cL_three a b
    · exact cb_three _ _
theorem dat_inj {x y : ByteArray} (h : x.data.toList = y.data.toList) : x = y := by
  cases x; cases y
  congr 1
  exact Array.toList_inj.1 h
theorem cL_zero : ∀ a b : List ByteArray, cL a b = 0 → a = b
  | [], [], _ => rfl
  | [], _ :: _, h => by simp [cL] at h
  | _ :: _, [], h => by simp [cL] at h
  | x :: a, y :: b, h => by
    rw [cL] at h
    split at h
    · rename_i h1
      rw [dat_inj (cb_zero _ _ h1), cL_zero a b h]
    · rename_i h1
      exact absurd h h1
theorem cL_take : ∀ (l : List ByteArray) (k : Nat), k < l.length → cL (l.take k) l = -1
  | [], k, h => absurd h (by simp)
  | x :: l, 0, _ => rfl
  | x :: l, k + 1, h => by
    rw [List.take_succ_cons, cL, if_pos (cb_refl _)]
    exact cL_take l k (by simpa using h)
/-- what stands between a row and something that begins with it begins with it, too -/
theorem cL_between : ∀ (x y r : List ByteArray), cL x y = -1 → cL y (x ++ r) = -1 → ∃ k, k < y.length ∧ y.take k = x
  | [], [], r, h, _ => by simp [cL] at h
  | [], b :: y, r, _, _ => ⟨0, by simp, rfl⟩
  | a :: x, [], r, h, _ => by simp [cL] at h
  | a :: x, b :: y, r, h1, h2 => by
    rw [List.cons_append, cL] at h2
    rw [cL] at h1
    rw [cb_neg a.data.toList b.data.toList] at h2
    by_cases h : compareBytes a.data.toList b.data.toList = 0
    · rw [if_pos h] at h1
      rw [if_pos (by omega)] at h2
      obtain ⟨k, hk, ht⟩ := cL_between x y r h1 h2
      refine ⟨k + 1, by simpa using hk, ?_⟩
      rw [List.take_succ_cons, ht, dat_inj (cb_zero _ _ h)]
    · rw [if_neg h] at h1
      rw [if_neg (by omega)] at h2
      omega
/-- from an index on -/
theorem cL_same : ∀ (k : Nat) (a b : List ByteArray), a.take k = b.take k → cL a b = cL (a.drop k) (b.drop k)
  | 0, _, _, _ => rfl
  | k + 1, [], b, h => by
    rw [List.take_nil] at h
    cases b with
    | nil => rfl
    | cons y b => cases h
  | k + 1, x :: a, [], h => by cases h
  | k + 1, x :: a, y :: b, h => by
    rw [List.take_succ_cons, List.take_succ_cons] at h
    injection h with h1 h2
    subst h1
    rw [cL, if_pos (cb_refl _), List.drop_succ_cons, List.drop_succ_cons]
    exact cL_same k a b h2
theorem cL_at (k : Nat) (a b : List ByteArray) (ht : a.take k = b.take k) (ha : k < a.length) (hb : k < b.length) : cL a b = if compareBytes a[k].data.toList b[k].data.toList = 0 then cL (a.drop (k + 1)) (b.drop (k + 1)) else compareBytes a[k].data.toList b[k].data.toList := by
  rw [cL_same k a b ht, List.drop_eq_getElem_cons ha, List.drop_eq_getElem_cons hb, cL]
theorem cL_out (k : Nat) (a b : List ByteArray) (ht : a.take k = b.take k) (ha : a.length = k) : cL a b = if a.length < b.length then -1 else 0 := by
  rw [cL_same k a b ht, List.drop_eq_nil_of_le (by omega)]
  cases hd : b.drop k with
  | nil =>
    have : b.length - k = 0 := by rw [← List.length_drop, hd]; rfl
    rw [if_neg (by omega)]
    rfl
  | cons y t =>
    have : b.length - k = t.length + 1 := by rw [← List.length_drop, hd]; rfl
    rw [if_pos (by omega)]
    rfl
theorem cL_out2 (k : Nat) (a b : List ByteArray) (ht : a.take k = b.take k) (hb : b.length = k) (ha : k < a.length) : cL a b = 1 := by
  have hd : b.drop k = [] := List.drop_eq_nil_of_le (by omega)
  rw [cL_same k a b ht, hd, List.drop_eq_getElem_cons ha]
  rfl
/-- how two paths stand -/
def ordS (p q : ByteArray) : Int := if (partsS p).length = 0 ∧ (partsS q).length = 0 then compareBytes p.data.toList q.data.toList else cL (partsS p) (partsS q)
theorem ordS_neg (p q : ByteArray) : ordS q p = -ordS p q := by
  unfold ordS
  by_cases h : (partsS p).length = 0 ∧ (partsS q).length = 0
  · rw [if_pos h, if_pos ⟨h.2, h.1⟩, cb_neg]
  · rw [if_neg h, if_neg (fun e => h ⟨e.2, e.1⟩), cL_neg]
theorem ordS_three (p q : ByteArray) : ordS p q = -1 ∨ ordS p q = 0 ∨ ordS p q = 1 := by
  unfold ordS
  split
  · exact cb_three _ _
  · exact cL_three _ _
theorem parts_inj {p q : ByteArray} (h : partsS p = partsS q) (h0 : (partsS p).length ≠ 0) : p = q := by
  have hr : ∀ s : ByteArray, (partsS s).length ≠ 0 → rightL s.data.toList = true := fun s hs => by
    cases hr : rightL s.data.toList with
    | true => rfl
    | false => rw [partsS_not hr] at hs; exact absurd rfl hs
  have hp := partsS_right (hr p h0)
  have hq := partsS_right (hr q (by rw [← h]; exact h0))
  rw [hp, hq] at h
  apply dat_inj
  rw [← jn_spS p, ← jn_spS q, h]
theorem ordS_zero {p q : ByteArray} (h : ordS p q = 0) : p = q := by
  unfold ordS at h
  split at h
  · exact dat_inj (cb_zero _ _ h)
  · rename_i h1
    have h2 := cL_zero _ _ h
    exact parts_inj h2 (fun e => h1 ⟨e, by rw [← h2]; exact e⟩)
theorem ordS_refl (p : ByteArray) : ordS p p = 0 := by
  unfold ordS
  split
  · exact cb_refl _
  · exact cL_refl _
/-- the parts of an up -/
theorem ups_mem {s u : ByteArray} (h : u ∈ upsS s) : ∃ k, 1 ≤ k ∧ k < (partsS s).length ∧ partsS u = (partsS s).take k ∧ rightL u.data.toList = true := by
  obtain ⟨k, hk, rfl⟩ := List.getElem_of_mem h
  have hlen := upsS_len s
  have hst := ups_step s k hk
  have hr : rightL s.data.toList = true := by
    cases hr : rightL s.data.toList with
    | true => rfl
    | false => rw [partsS_not hr, List.length_nil] at hlen; omega
  refine ⟨k + 1, by omega, by omega, ?_, hst.2.2⟩
  rw [partsS_right hst.2.2, upsS_at, partsS_right hr]
  exact (right_take hr (k + 1) (by omega)).2
theorem ups_of {s u : ByteArray} {k : Nat} (h1 : 1 ≤ k) (h2 : k < (partsS s).length) (h3 : partsS u = (partsS s).take k) : u ∈ upsS s := by
  have hlen := upsS_len s
  have hk : k - 1 < (upsS s).length := by omega
  have hu := upsS_at s (k - 1) hk
  have hm : (upsS s)[k - 1] ∈ upsS s := List.getElem_mem hk
  obtain ⟨_, _, _, _, h5⟩ := ups_mem hm
  have hr : rightL s.data.toList = true := by
    cases hr : rightL s.data.toList with
    | true => rfl
    | false => rw [partsS_not hr, List.length_nil] at hlen; omega
  have hp : partsS (upsS s)[k - 1] = (partsS s).take k := by
    rw [partsS_right h5, hu, partsS_right hr, show k - 1 + 1 = k by omega]
    exact (right_take hr k h1).2
  have : (upsS s)[k - 1] = u := parts_inj (by rw [hp, h3]) (by rw [hp, List.length_take]; omega)
  rw [← this]
  exact hm
theorem ups_order {p u : ByteArray} (h : u ∈ upsS p) : ordS u p = -1 := by
  obtain ⟨k, h1, h2, h3, _⟩ := ups_mem h
  unfold ordS
  rw [if_neg (by omega), h3]
  exact cL_take _ _ h2
theorem between {p q s : ByteArray} (h : p ∈ upsS q) (hr : rightL s.data.toList = true) (h1 : ordS p s = -1) (h2 : ordS s q = -1) : p ∈ upsS s := by
  obtain ⟨k, hk1, hk2, h3, _⟩ := ups_mem h
  have hs0 : 0 < (partsS s).length := by
    rw [partsS_right hr]
    exact List.length_pos_iff.2 (spS_ne s)
  have hp0 : (partsS p).length = k := by rw [h3, List.length_take]; omega
  unfold ordS at h1 h2
  rw [if_neg (by omega)] at h1 h2
  obtain ⟨j, hj, hje⟩ := cL_between (partsS p) (partsS s) ((partsS q).drop k) h1 (by rw [h3, List.take_append_drop]; exact h2)
  have hjk : j = k := by
    rw [← hp0, ← hje, List.length_take]; omega
  subst hjk
  exact ups_of hk1 hj hje.symm
end Sw
/- Contracts of name.Parts, Parent, Base, Ups, and of the reference's Ups. -/
set_option linter.unusedVariables false
set_option linter.unusedSimpArgs false
namespace Go.Proofs.YtnpehjgnplaabaaGreatDoor
open Go Go.RowKit
open Sw
/-- texts that can be read -/
def SlPost (l : List ByteArray) (w : World) (e : Ending) (w' : World) : Prop := ∃ v, e = .returned v ∧ SlV w' 1 bE v l ∧ Below w.heap.size w w'
theorem flat_bE (l : List ByteArray) : l.flatMap bE = l.map Value.string := by
  induction l with
  | nil => rfl
  | cons a l ih => rw [List.flatMap_cons, ih]; rfl
set_option maxRecDepth 100000 in
set_option maxHeartbeats 1000000 in
theorem parts_any (w : World) (s : ByteArray) (hs : s.size ≤ 100000) :
    Calls Tryz.prog 77 #[.string s] w (SlPost (partsS s) w) := by
  have HR := Lib.hid (right_any w s (by omega))
  have HS := Lib.hid (fun W => split_one W s hs)
  have hlen := spS_len s
  have hp := partsS_right (s := s)
  have hn := partsS_not (s := s)
  have hF1 := fun (w1 w2 : World) (hb1 : Below w.heap.size w w1) (h : w2 = w1.alloc (.cells ((spS s).map Value.string).toArray 9)) => (show SlV w2 1 bE (.slice (some ⟨w1.heap.size, 0, none⟩) (spS s).length (spS s).length) (spS s) ∧ Below w.heap.size w w2 from by
    subst h
    have hB := Blk.new w1 9 ((spS s).map Value.string).toArray
    refine ⟨⟨_, _, rfl, Nat.le_refl _, by unfold maxLen; omega, fun _ => ⟨w1.heap.size, 0, rfl, hB.lt, fun i hi j hj => ?_⟩⟩, hb1.alloc hb1.size _⟩
    have hj0 : j = 0 := by omega
    subst hj0
    rw [hB.cell]
    simp [bE, List.getElem?_eq_getElem hi])
  generalize rightL s.data.toList = U at *
  cases U with
  | false =>
    have HF := Lib.hid (fun (w1 : World) (hb1 : Below w.heap.size w w1) => (show SlPost (partsS s) w (.returned (.slice none 0 0)) w1 from ⟨_, rfl, by rw [hn rfl]; exact ⟨none, 0, rfl, Nat.le_refl _, by unfold maxLen; omega, SlOf.nil _ _ _ _⟩, hb1⟩))
    clear hp hn hF1
    go_enter Tryz.func77, Tryz.ntmps77
    go_wp2_with fail
    refine HR.out.mono ?_
    rintro e w1 ⟨rfl, hb1⟩
    have HG := Lib.hid (HF.out w1 hb1)
    go_wp2_with fail
    go_ret
    exact HG.out
  | true =>
    have HF := Lib.hid (fun (w1 w2 : World) (hb1 : Below w.heap.size w w1) (h : w2 = w1.alloc (.cells ((spS s).map Value.string).toArray 9)) => (show SlPost (partsS s) w (.returned (.slice (some ⟨w1.heap.size, 0, none⟩) (spS s).length (spS s).length)) w2 from ⟨_, rfl, by rw [hp rfl]; exact (hF1 w1 w2 hb1 h).1, (hF1 w1 w2 hb1 h).2⟩))
    clear hp hn hF1
    go_enter Tryz.func77, Tryz.ntmps77
    go_wp2_with fail
    refine HR.out.mono ?_
    rintro e w1 ⟨rfl, hb1⟩
    go_wp2_with fail
    refine (HS.out w1).mono ?_
    rintro e w2 ⟨rfl, hw2⟩
    have HG := Lib.hid (HF.out w1 w2 hb1 hw2)
    clear hw2
    go_wp2_with fail
    go_ret
    exact HG.out
theorem last_47 (w : World) (s : ByteArray) (hs : s.size ≤ 1000000) :
    Calls Tryz.prog 166 #[.string s, .string ⟨#[47]⟩] w fun e w' => e = .returned (.int .i64 (Lib.lastIndexByte s 47)) ∧ w' = w :=
  Tryz.strings_LastIndex_one s ⟨#[47]⟩ rfl (by omega) w
set_option maxRecDepth 100000 in
set_option maxHeartbeats 1000000 in
theorem parent_any (w : World) (s : ByteArray) (hs : s.size ≤ 100000) :
    Calls Tryz.prog 125 #[.string s] w fun e w' => e = .returned (.string (parentS s)) ∧ Below w.heap.size w w' := by
  have HR := Lib.hid (right_any w s (by omega))
  have HL := Lib.hid (last_47 w s (by omega))
  rcases Lib.lastIndexByte_spec s 47 with ⟨hi, hno⟩ | ⟨i, hlt, hi, h1, h2⟩
  · have hp : parentS s = ⟨#[]⟩ := by
      cases hr : rightL s.data.toList with
      | false => exact (parent_not hr).1
      | true =>
        unfold parentS
        rw [partsS_right hr, last_miss hno]
        rfl
    rw [hi] at HL
    have HP := Lib.hid hp; clear hp hno hi
    go_enter Tryz.func125, Tryz.ntmps125
    go_wp2_with fail
    refine HL.out.mono ?_
    rintro e w1 ⟨rfl, rfl⟩
    go_wp2_with fail
    go_ret
    exact ⟨by rw [HP.out]; first | done | rfl, Below.refl _ _⟩
  · have hsp := last_hit hlt h1 h2
    rw [hi] at HL
    cases hr : rightL s.data.toList with
    | false =>
      rw [hr] at HR
      have HP := Lib.hid (parent_not hr).1
      clear hsp h1 h2 hi hr
      go_enter Tryz.func125, Tryz.ntmps125
      go_wp2_with fail
      refine HL.out.mono ?_
      rintro e w1 ⟨rfl, rfl⟩
      go_wp2_with fail
      refine HR.out.mono ?_
      rintro e w2 ⟨rfl, hb2⟩
      go_wp2_with fail
      go_ret
      exact ⟨by rw [HP.out]; first | done | rfl, hb2⟩
    | true =>
      rw [hr] at HR
      have HP := Lib.hid (show parentS s = s.extract 0 i by
        unfold parentS
        rw [partsS_right hr, hsp, List.dropLast_concat, jn_spS, mkB_data])
      have hiI : (i : Int) ≤ s.size := by omega
      clear hsp h1 h2 hi hr
      go_enter Tryz.func125, Tryz.ntmps125
      go_wp2_with fail
      refine HL.out.mono ?_
      rintro e w1 ⟨rfl, rfl⟩
      go_wp2_with fail
      refine HR.out.mono ?_
      rintro e w2 ⟨rfl, hb2⟩
      go_wp2_with fail
      go_ret
      exact ⟨by rw [HP.out]; first | done | rfl, hb2⟩
end Go.Proofs.YtnpehjgnplaabaaGreatDoor
/- Contracts of name.Ups and of the reference's Ups. -/
set_option linter.unusedVariables false
set_option linter.unusedSimpArgs false
namespace Sw
open Go Go.RowKit
def slLen : Value → Nat
  | .slice _ n _ => n
  | _ => 0
theorem own_slLen {w : World} {base : Nat} {e : TypeId} {size n : Nat} {v : Value} {xs : List Value} (h : w.ownsRow base e size v n xs) : slLen v = n := by
  rcases h.2 with ⟨rfl, h0⟩ | ⟨g, cap, cur, rfl, _⟩
  · exact h0.symm
  · rfl
end Sw
namespace Go.Proofs.YtnpehjgnplaabaaGreatDoor
open Go Go.RowKit
open Sw
set_option maxRecDepth 100000 in
theorem rev_nil (w : World) (A : Option Addr) (c : Nat) :
    Calls Tryz.prog 174 #[.slice A 0 c] w fun e w' => e = .returned (.tuple #[]) ∧ w = w' := by
  go_enter Tryz.func174, Tryz.ntmps174
  go_wp2_with fail
  go_loopw [2, 3] (fun i j wr => i = .int .i64 0 ∧ j = .int .i64 (-1) ∧ w = wr) (fun _ _ _ => 0)
  case atStart => exact ⟨rfl, rfl, rfl⟩
  case round =>
    obtain ⟨rfl, rfl, rfl⟩ := hrel
    go_wp2_with fail
    go_end0
    exact ⟨rfl, rfl⟩
/-- texts turned round -/
theorem rev_own (w : World) (base : Nat) (v : Value) (l : List ByteArray) (hown : w.ownsRow base 9 1 v l.length (l.flatMap bE)) (hl : l.length ≤ 100000) :
    Calls Tryz.prog 174 #[v] w fun e w' => e = .returned (.tuple #[]) ∧ SlV w' 1 bE v l.reverse ∧ Below base w w' := by
  by_cases h0 : l.length = 0
  · have hl0 : l = [] := List.length_eq_zero_iff.1 h0
    obtain ⟨A, c, rfl, hc, hm, hsl⟩ := SlV.of_own hown bE_len (by omega)
    subst hl0
    exact (rev_nil w A c).mono fun e w' h => ⟨h.1, ⟨A, c, rfl, Nat.zero_le _, hm, SlOf.nil _ _ _ _⟩, by rw [← h.2]; exact Below.refl _ _⟩
  · rcases hown.2 with ⟨_, h⟩ | ⟨g, cap, cur, rfl, hb, hh, hc, hm, hsz, hx⟩
    · omega
    · have hcell : ∀ i, i < l.length → w.cell? ⟨g, 0 + i, none⟩ = some (.string (l.getD i ByteArray.empty)) := fun i hi => by
        have := hown.cells (g := g) rfl i (.string l[i]) (by rw [flat_bE]; simp [List.getElem?_eq_getElem hi])
        rw [add_mk] at this
        rw [this, List.getD_eq_getElem?_getD, List.getElem?_eq_getElem hi]
        rfl
      have hfr : ∀ i, i < l.length → w.frozen? ⟨g, 0 + i, none⟩ = false := fun i hi => by
        have hB : Blk w g 9 cur := hh
        exact hB.frozen (0 + i)
      refine (Tryz.slices_Reverse_string_cells g 0 l.length cap (fun i => l.getD i ByteArray.empty) w (by omega) hcell hfr).mono ?_
      rintro e w' ⟨rfl, q, rfl⟩
      have hstr : (Lib.strsOf (fun i => l.getD i ByteArray.empty) l.length).reverse.map Go.Proofs.encStr = l.reverse.map Value.string := by
        have h1 : Lib.strsOf (fun i => l.getD i ByteArray.empty) l.length = l.map fun b => b.data.toList := by
          unfold Lib.strsOf
          apply List.ext_getElem
          · simp
          · intro i h1 h2
            have hi : i < l.length := by simpa using h2
            simp [List.getD_eq_getElem?_getD, List.getElem?_eq_getElem hi]
        rw [h1, ← List.map_reverse, List.map_map]
        exact List.map_congr_left fun a _ => congrArg Value.string (mkB_data a)
      rw [hstr]
      have hlt : g < w.heap.size := (Array.getElem?_eq_some_iff.1 hh).1
      refine ⟨rfl, ⟨some ⟨g, 0, none⟩, cap, by simp, by simpa using hc, hm, fun hn => ⟨g, 0, rfl, ?_, fun i hi j hj => ?_⟩⟩, ?_⟩
      · have := (Go.Lib.below_setCells_w (B := base) hb (l.reverse.map Value.string) 0 (w.drewN q)).size
        exact Nat.lt_of_lt_of_le hlt this
      · have hj0 : j = 0 := by omega
        subst hj0
        have hin := World.cell?_setCells_in g (l.reverse.map Value.string) 0 (w.drewN q) (fun j hj => by
          have hj' : j < l.length := by simpa using hj
          have := hcell j hj'
          show ((w.drewN q).cell? ⟨g, 0 + j, none⟩).isSome = true
          rw [show (w.drewN q).cell? ⟨g, 0 + j, none⟩ = w.cell? ⟨g, 0 + j, none⟩ from rfl, this]
          rfl) i (by simpa using hi)
        rw [Nat.mul_one, Nat.add_zero, hin]
        simp [bE]
      · have h1 := Go.Lib.below_setCells_w (B := base) hb (l.reverse.map Value.string) 0 (w.drewN q)
        exact below_of_drewN h1
set_option maxRecDepth 100000 in
set_option maxHeartbeats 4000000 in
theorem ups_any (w : World) (s : ByteArray) (hs : s.size ≤ 90000) :
    Calls Tryz.prog 139 #[.string s] w (SlPost (upsS s) w) := by
  have HP0 := Lib.hid (parent_any w s (by omega))
  rw [ups_start] at HP0
  have hstep := ups_step s
  have hlenU : (upsS s).length ≤ 90001 := by
    have h1 := upsS_len s
    have h2 : (partsS s).length ≤ s.size + 1 := by
      unfold partsS
      split
      · exact spS_len s
      · simp
    omega
  generalize upsS s = U at *
  have HST := Lib.hid hstep; clear hstep
  have HF := Lib.hid (fun v w' (h : SlV w' 1 bE v U) (hb : Below w.heap.size w w') => (show SlPost U w (.returned v) w' from ⟨v, rfl, h, hb⟩))
  have hp0 : pAt U 0 = ⟨#[]⟩ := by unfold pAt; rw [dif_neg (by omega)]
  have HP1 := Lib.hid hp0; clear hp0
  go_enter Tryz.func139, Tryz.ntmps139
  go_wp2_with fail
  refine HP0.out.mono ?_
  rintro e w1 ⟨rfl, hb1⟩
  go_wp2_with fail
  go_loopw [0, 2] (fun p o wr => ∃ k, k ≤ U.length ∧ p = .string (pAt U k) ∧ wr.ownsRow w.heap.size 9 1 o (U.length - k) ((U.drop k).reverse.flatMap bE) ∧ Below w.heap.size w wr) (fun _ o _ => U.length - slLen o)
  case atStart => exact ⟨U.length, Nat.le_refl _, rfl, by rw [Nat.sub_self, List.drop_length]; exact ⟨rfl, .inl ⟨rfl, rfl⟩⟩, hb1⟩
  case round =>
    obtain ⟨k, hk, rfl, hown, hbr⟩ := hrel
    cases k with
    | zero =>
      rw [HP1.out]
      rw [List.drop_zero, Nat.sub_zero] at hown
      have hrev := rev_own wr w.heap.size u2 U.reverse (by rw [List.length_reverse]; exact hown) (by rw [List.length_reverse]; omega)
      rw [List.reverse_reverse] at hrev
      have HREV := Lib.hid hrev; clear hrev hown
      have he : (⟨#[]⟩ : ByteArray).toList.isEmpty = true := by rw [str_empty]; exact decide_eq_true rfl
      go_wp2_with fail
      refine HREV.out.mono ?_
      rintro e w5 ⟨rfl, hsl, hb5⟩
      have HG := Lib.hid (HF.out _ w5 hsl (hbr.trans hb5))
      clear hsl
      go_wp2_with fail
      go_ret
      exact HG.out
    | succ k =>
      have hkl : k < U.length := by omega
      obtain ⟨h1, h2, h3⟩ := HST.out k hkl
      have hpos := right_pos h3
      have hPar := fun W => parent_any W U[k] (by omega)
      rw [h1] at hPar
      have hne : U[k].toList.isEmpty = false := by
        rw [str_empty]
        refine decide_eq_false fun e => ?_
        rw [e] at hpos
        exact absurd hpos (by decide)
      have hdr : (U.drop k).reverse.flatMap bE = (U.drop (k + 1)).reverse.flatMap bE ++ [.string U[k]] := by
        rw [List.drop_eq_getElem_cons hkl, List.reverse_cons, flat_snoc]
      have hlen : U.length - k = U.length - (k + 1) + 1 := by omega
      have hsl := own_slLen hown
      rw [pAt_succ U k hkl]
      have HPAR := Lib.hid hPar; clear hPar h1 h2 h3 hpos
      have HDR := Lib.hid (And.intro hdr hlen); clear hdr hlen
      generalize U[k] = X at *
      have hl6 : U.length - (k + 1) + 1 ≤ 1000000 := by omega
      have HO := Lib.hid hown; clear hown
      obtain ⟨m, hm⟩ : ∃ m, m = U.length - (k + 1) := ⟨_, rfl⟩
      rw [← hm] at HO HDR hl6 hsl
      have HM := Lib.hid hm; clear hm
      go_wp2_with (refine wpList_app rfl _ _ 34 rfl w.heap.size 9 (.string ByteArray.empty) 1 16 Tryz.underlying34 info_str rfl (by omega) u2 m ((U.drop (k + 1)).reverse.flatMap bE) (by simp [Act.eval, Act.put]) (own_kept HO.out ((Below.refl _ _).alloc (Nat.le_refl _) _)) wr.heap.size 1 _ _ (by simp [Act.eval, Act.put]) (Blk.new _ _ _) rfl (by simp [Value.oneCell']) hl6 (by omega) (by have := hbr.size; simp; omega) _ rfl ?_; intro g2 cap2 w5 ho2 hg2 hat2 hlt2)
      have hw5 : Below w.heap.size w w5 := own_below HO.out (hbr.alloc hbr.size _) hg2 (Nat.le_refl _) (by have := hbr.size; simp; omega)
      refine (HPAR.out _).mono ?_
      rintro e w6 ⟨rfl, hb6⟩
      have ho6 := own_kept ho2 hb6
      go_wp2_with fail
      go_roundw
      case rel => exact ⟨k, by omega, rfl, by rw [HDR.out.1, HDR.out.2]; exact ho6, hw5.trans (hb6.mono hw5.size)⟩
      case measure => have := HM.out; rw [hsl]; simp [slLen]; omega
end Go.Proofs.YtnpehjgnplaabaaGreatDoor
