/- Plain laws of how two paths stand. -/
import Derived.Test.YtjglkbbhihlcgaaDoorUpsPlain
import Derived.Test.YtjglkbbhihlcgaaDoorSlMore
import Derived.Lib.Bytealg
set_option linter.unusedVariables false
set_option linter.unusedSimpArgs false
namespace Sw
open Go Go.RowKit
open Go.Proofs.YtjglkbbhihlcgaaDoor (partsS)
open Go.Lib (compareBytes)
theorem u8_tri (a b : UInt8) (h1 : ¬ a < b) (h2 : ¬ b < a) : a = b := UInt8.le_antisymm (UInt8.not_lt.1 h2) (UInt8.not_lt.1 h1)
theorem cb_refl : ∀ a : List UInt8, compareBytes a a = 0
  | [] => rfl
  | x :: a => by rw [compareBytes, if_neg (UInt8.lt_irrefl x), if_neg (UInt8.lt_irrefl x), cb_refl a]
theorem cb_neg : ∀ a b : List UInt8, compareBytes b a = -compareBytes a b
  | [], [] => rfl
  | [], _ :: _ => rfl
  | _ :: _, [] => rfl
  | x :: a, y :: b => by
    rw [compareBytes, compareBytes]
    by_cases h1 : x < y
    · rw [if_pos h1, if_neg (UInt8.lt_asymm h1), if_pos h1]
      rfl
    · by_cases h2 : y < x
      · rw [if_pos h2, if_neg h1, if_pos h2]
      · rw [if_neg h2, if_neg h1, if_neg h1, if_neg h2, cb_neg a b]
theorem cb_three : ∀ a b : List UInt8, compareBytes a b = -1 ∨ compareBytes a b = 0 ∨ compareBytes a b = 1
  | [], [] => .inr (.inl rfl)
  | [], _ :: _ => .inl rfl
  | _ :: _, [] => .inr (.inr rfl)
  | x :: a, y :: b => by
    rw [compareBytes]
    split
    · exact .inl rfl
    · split
      · exact .inr (.inr rfl)
      · exact cb_three a b
theorem cb_zero : ∀ a b : List UInt8, compareBytes a b = 0 → a = b
  | [], [], _ => rfl
  | [], _ :: _, h => by simp [compareBytes] at h
  | _ :: _, [], h => by simp [compareBytes] at h
  | x :: a, y :: b, h => by
    rw [compareBytes] at h
    split at h
    · cases h
    · rename_i h1
      split at h
      · cases h
      · rename_i h2
        rw [u8_tri x y h1 h2, cb_zero a b h]
theorem cb_zero_iff (a b : List UInt8) : compareBytes a b = 0 ↔ a = b := ⟨cb_zero a b, fun h => by subst h; exact cb_refl a⟩
theorem less_cb : ∀ a b : List UInt8, Op.bytesLess a b = decide (compareBytes a b = -1)
  | [], [] => rfl
  | [], _ :: _ => rfl
  | _ :: _, [] => rfl
  | x :: a, y :: b => by
    rw [Op.bytesLess, compareBytes, less_cb a b]
    by_cases h1 : x < y
    · rw [if_pos h1, decide_eq_true h1]; rfl
    · by_cases h2 : y < x
      · have hne : (x == y) = false := by
          rw [beq_eq_false_iff_ne]
          intro e
          subst e
          exact UInt8.lt_irrefl _ h2
        rw [if_neg h1, if_pos h2, decide_eq_false h1, hne]
        rfl
      · have := u8_tri x y h1 h2
        subst this
        rw [if_neg h1, if_neg h1, decide_eq_false h1, beq_self_eq_true]
        simp
/-- how two rows of texts stand -/
def cL : List ByteArray → List ByteArray → Int
  | [], [] => 0
  | [], _ :: _ => -1
  | _ :: _, [] => 1
  | x :: a, y :: b => if compareBytes x.data.toList y.data.toList = 0 then cL a b else compareBytes x.data.toList y.data.toList
theorem cL_refl : ∀ a : List ByteArray, cL a a = 0
  | [] => rfl
  | x :: a => by rw [cL, if_pos (cb_refl _), cL_refl a]
theorem cL_neg : ∀ a b : List ByteArray, cL b a = -cL a b
  | [], [] => rfl
  | [], _ :: _ => rfl
  | _ :: _, [] => rfl
  | x :: a, y :: b => by
    rw [cL, cL, cb_neg x.data.toList y.data.toList, cL_neg a b]
    by_cases h : compareBytes x.data.toList y.data.toList = 0
    · rw [if_pos (by omega), if_pos h]
    · rw [if_neg (by omega), if_neg h]
theorem cL_three : ∀ a b : List ByteArray, cL a b = -1 ∨ cL a b = 0 ∨ cL a b = 1
  | [], [] => .inr (.inl rfl)
  | [], _ :: _ => .inl rfl
  | _ :: _, [] => .inr (.inr rfl)
  | x :: a, y :: b => by
    rw [cL]
    split
    · exact cL_three a b
    · exact cb_three _ _
theorem dat_inj {x y : ByteArray} (h : x.data.toList = y.data.toList) : x = y := by
  cases x; cases y
  congr 1
  exact Array.toList_inj.1 h
theorem cL_zero : ∀ a b : List ByteArray, cL a b = 0 → a = b
  | [], [], _ => rfl
  | [], _ :: _, h => by simp [cL] at h
  | _ :: _, [], h => by simp [cL] at h
  | x :: a, y :: b, h => by
    rw [cL] at h
    split at h
    · rename_i h1
      rw [dat_inj (cb_zero _ _ h1), cL_zero a b h]
    · rename_i h1
      exact absurd h h1
theorem cL_take : ∀ (l : List ByteArray) (k : Nat), k < l.length → cL (l.take k) l = -1
  | [], k, h => absurd h (by simp)
  | x :: l, 0, _ => rfl
  | x :: l, k + 1, h => by
    rw [List.take_succ_cons, cL, if_pos (cb_refl _)]
    exact cL_take l k (by simpa using h)
/-- what stands between a row and something that begins with it begins with it, too -/
theorem cL_between : ∀ (x y r : List ByteArray), cL x y = -1 → cL y (x ++ r) = -1 → ∃ k, k < y.length ∧ y.take k = x
  | [], [], r, h, _ => by simp [cL] at h
  | [], b :: y, r, _, _ => ⟨0, by simp, rfl⟩
  | a :: x, [], r, h, _ => by simp [cL] at h
  | a :: x, b :: y, r, h1, h2 => by
    rw [List.cons_append, cL] at h2
    rw [cL] at h1
    rw [cb_neg a.data.toList b.data.toList] at h2
    by_cases h : compareBytes a.data.toList b.data.toList = 0
    · rw [if_pos h] at h1
      rw [if_pos (by omega)] at h2
      obtain ⟨k, hk, ht⟩ := cL_between x y r h1 h2
      refine ⟨k + 1, by simpa using hk, ?_⟩
      rw [List.take_succ_cons, ht, dat_inj (cb_zero _ _ h)]
    · rw [if_neg h] at h1
      rw [if_neg (by omega)] at h2
      omega
/-- from an index on -/
theorem cL_same : ∀ (k : Nat) (a b : List ByteArray), a.take k = b.take k → cL a b = cL (a.drop k) (b.drop k)
  | 0, _, _, _ => rfl
  | k + 1, [], b, h => by
    rw [List.take_nil] at h
    cases b with
    | nil => rfl
    | cons y b => cases h
  | k + 1, x :: a, [], h => by cases h
  | k + 1, x :: a, y :: b, h => by
    rw [List.take_succ_cons, List.take_succ_cons] at h
    injection h with h1 h2
    subst h1
    rw [cL, if_pos (cb_refl _), List.drop_succ_cons, List.drop_succ_cons]
    exact cL_same k a b h2
theorem cL_at (k : Nat) (a b : List ByteArray) (ht : a.take k = b.take k) (ha : k < a.length) (hb : k < b.length) : cL a b = if compareBytes a[k].data.toList b[k].data.toList = 0 then cL (a.drop (k + 1)) (b.drop (k + 1)) else compareBytes a[k].data.toList b[k].data.toList := by
  rw [cL_same k a b ht, List.drop_eq_getElem_cons ha, List.drop_eq_getElem_cons hb, cL]
theorem cL_out (k : Nat) (a b : List ByteArray) (ht : a.take k = b.take k) (ha : a.length = k) : cL a b = if a.length < b.length then -1 else 0 := by
  rw [cL_same k a b ht, List.drop_eq_nil_of_le (by omega)]
  cases hd : b.drop k with
  | nil =>
    have : b.length - k = 0 := by rw [← List.length_drop, hd]; rfl
    rw [if_neg (by omega)]
    rfl
  | cons y t =>
    have : b.length - k = t.length + 1 := by rw [← List.length_drop, hd]; rfl
    rw [if_pos (by omega)]
    rfl
theorem cL_out2 (k : Nat) (a b : List ByteArray) (ht : a.take k = b.take k) (hb : b.length = k) (ha : k < a.length) : cL a b = 1 := by
  have hd : b.drop k = [] := List.drop_eq_nil_of_le (by omega)
  rw [cL_same k a b ht, hd, List.drop_eq_getElem_cons ha]
  rfl
/-- how two paths stand -/
def ordS (p q : ByteArray) : Int := if (partsS p).length = 0 ∧ (partsS q).length = 0 then compareBytes p.data.toList q.data.toList else cL (partsS p) (partsS q)
theorem ordS_neg (p q : ByteArray) : ordS q p = -ordS p q := by
  unfold ordS
  by_cases h : (partsS p).length = 0 ∧ (partsS q).length = 0
  · rw [if_pos h, if_pos ⟨h.2, h.1⟩, cb_neg]
  · rw [if_neg h, if_neg (fun e => h ⟨e.2, e.1⟩), cL_neg]
theorem ordS_three (p q : ByteArray) : ordS p q = -1 ∨ ordS p q = 0 ∨ ordS p q = 1 := by
  unfold ordS
  split
  · exact cb_three _ _
  · exact cL_three _ _
theorem parts_inj {p q : ByteArray} (h : partsS p = partsS q) (h0 : (partsS p).length ≠ 0) : p = q := by
  have hr : ∀ s : ByteArray, (partsS s).length ≠ 0 → rightL s.data.toList = true := fun s hs => by
    cases hr : rightL s.data.toList with
    | true => rfl
    | false => rw [partsS_not hr] at hs; exact absurd rfl hs
  have hp := partsS_right (hr p h0)
  have hq := partsS_right (hr q (by rw [← h]; exact h0))
  rw [hp, hq] at h
  apply dat_inj
  rw [← jn_spS p, ← jn_spS q, h]
theorem ordS_zero {p q : ByteArray} (h : ordS p q = 0) : p = q := by
  unfold ordS at h
  split at h
  · exact dat_inj (cb_zero _ _ h)
  · rename_i h1
    have h2 := cL_zero _ _ h
    exact parts_inj h2 (fun e => h1 ⟨e, by rw [← h2]; exact e⟩)
theorem ordS_refl (p : ByteArray) : ordS p p = 0 := by
  unfold ordS
  split
  · exact cb_refl _
  · exact cL_refl _
/-- the parts of an up -/
theorem ups_mem {s u : ByteArray} (h : u ∈ upsS s) : ∃ k, 1 ≤ k ∧ k < (partsS s).length ∧ partsS u = (partsS s).take k ∧ rightL u.data.toList = true := by
  obtain ⟨k, hk, rfl⟩ := List.getElem_of_mem h
  have hlen := upsS_len s
  have hst := ups_step s k hk
  have hr : rightL s.data.toList = true := by
    cases hr : rightL s.data.toList with
    | true => rfl
    | false => rw [partsS_not hr, List.length_nil] at hlen; omega
  refine ⟨k + 1, by omega, by omega, ?_, hst.2.2⟩
  rw [partsS_right hst.2.2, upsS_at, partsS_right hr]
  exact (right_take hr (k + 1) (by omega)).2
theorem ups_of {s u : ByteArray} {k : Nat} (h1 : 1 ≤ k) (h2 : k < (partsS s).length) (h3 : partsS u = (partsS s).take k) : u ∈ upsS s := by
  have hlen := upsS_len s
  have hk : k - 1 < (upsS s).length := by omega
  have hu := upsS_at s (k - 1) hk
  have hm : (upsS s)[k - 1] ∈ upsS s := List.getElem_mem hk
  obtain ⟨_, _, _, _, h5⟩ := ups_mem hm
  have hr : rightL s.data.toList = true := by
    cases hr : rightL s.data.toList with
    | true => rfl
    | false => rw [partsS_not hr, List.length_nil] at hlen; omega
  have hp : partsS (upsS s)[k - 1] = (partsS s).take k := by
    rw [partsS_right h5, hu, partsS_right hr, show k - 1 + 1 = k by omega]
    exact (right_take hr k h1).2
  have : (upsS s)[k - 1] = u := parts_inj (by rw [hp, h3]) (by rw [hp, List.length_take]; omega)
  rw [← this]
  exact hm
theorem ups_order {p u : ByteArray} (h : u ∈ upsS p) : ordS u p = -1 := by
  obtain ⟨k, h1, h2, h3, _⟩ := ups_mem h
  unfold ordS
  rw [if_neg (by omega), h3]
  exact cL_take _ _ h2
theorem between {p q s : ByteArray} (h : p ∈ upsS q) (hr : rightL s.data.toList = true) (h1 : ordS p s = -1) (h2 : ordS s q = -1) : p ∈ upsS s := by
  obtain ⟨k, hk1, hk2, h3, _⟩ := ups_mem h
  have hs0 : 0 < (partsS s).length := by
    rw [partsS_right hr]
    exact List.length_pos_iff.2 (spS_ne s)
  have hp0 : (partsS p).length = k := by rw [h3, List.length_take]; omega
  unfold ordS at h1 h2
  rw [if_neg (by omega)] at h1 h2
  obtain ⟨j, hj, hje⟩ := cL_between (partsS p) (partsS s) ((partsS q).drop k) h1 (by rw [h3, List.take_append_drop]; exact h2)
  have hjk : j = k := by
    rw [← hp0, ← hje, List.length_take]; omega
  subst hjk
  exact ups_of hk1 hj hje.symm
end Sw
