/- Several texts, joined for the limit of sixty files; each one opens with its own comment. -/
import Derived.Test.YtjcbjocgachpjaaGreatDoorJoin6
import Derived.Test.YtjcbjocgachpjaaGreatDoorJoin1
import Derived.Lib.Bytealg
import Derived.Lib.EndianMore
/- Plain laws of how two paths stand. -/
set_option linter.unusedVariables false
set_option linter.unusedSimpArgs false
namespace Sw
open Go Go.RowKit
open Go.Proofs.YtjcbjocgachpjaaGreatDoor (partsS)
open Go.Lib (compareBytes)
theorem u8_tri (a b : UInt8) (h1 : ¬ a < b) (h2 : ¬ b < a) : a = b := UInt8.le_antisymm (UInt8.not_lt.1 h2) (UInt8.not_lt.1 h1)
theorem cb_refl : ∀ a : List UInt8, compareBytes a a = 0
  | [] => rfl
  | x :: a => by rw [compareBytes, if_neg (UInt8.lt_irrefl x), if_neg (UInt8.lt_irrefl x), cb_refl a]
theorem cb_neg : ∀ a b : List UInt8, compareBytes b a = -compareBytes a b
  | [], [] => rfl
  | [], _ :: _ => rfl
  | _ :: _, [] => rfl
  | x :: a, y :: b => by
    rw [compareBytes, compareBytes]
    by_cases h1 : x < y
    · rw [if_pos h1, if_neg (UInt8.lt_asymm h1), if_pos h1]
      rfl
    · by_cases h2 : y < x
      · rw [if_pos h2, if_neg h1, if_pos h2]
      · rw [if_neg h2, if_neg h1, if_neg h1, if_neg h2, cb_neg a b]
theorem cb_three : ∀ a b : List UInt8, compareBytes a b = -1 ∨ compareBytes a b = 0 ∨ compareBytes a b = 1
  | [], [] => .inr (.inl rfl)
  | [], _ :: _ => .inl rfl
  | _ :: _, [] => .inr (.inr rfl)
  | x :: a, y :: b => by
    rw [compareBytes]
    split
    · exact .inl rfl
    · split
      · exact .inr (.inr rfl)
      · exact cb_three a b
theorem cb_zero : ∀ a b : List UInt8, compareBytes a b = 0 → a = b
  | [], [], _ => rfl
  | [], _ :: _, h => by simp [compareBytes] at h
  | _ :: _, [], h => by simp [compareBytes] at h
  | x :: a, y :: b, h => by
    rw [compareBytes] at h
    split at h
    · cases h
    · rename_i h1
      split at h
      · cases h
      · rename_i h2
        rw [u8_tri x y h1 h2, cb_zero a b h]
theorem cb_zero_iff (a b : List UInt8) : compareBytes a b = 0 ↔ a = b := ⟨cb_zero a b, fun h => by subst h; exact cb_refl a⟩
theorem less_cb : ∀ a b : List UInt8, Op.bytesLess a b = decide (compareBytes a b = -1)
  | [], [] => rfl
  | [], _ :: _ => rfl
  | _ :: _, [] => rfl
  | x :: a, y :: b => by
    rw [Op.bytesLess, compareBytes, less_cb a b]
    by_cases h1 : x < y
    · rw [if_pos h1, decide_eq_true h1]; rfl
    · by_cases h2 : y < x
      · have hne : (x == y) = false := by
          rw [beq_eq_false_iff_ne]
          intro e
          subst e
          exact UInt8.lt_irrefl _ h2
        rw [if_neg h1, if_pos h2, decide_eq_false h1, hne]
        rfl
      · have := u8_tri x y h1 h2
        subst this
        rw [if_neg h1, if_neg h1, decide_eq_false h1, beq_self_eq_true]
        simp
/-- how two rows of texts stand -/
def cL : List ByteArray → List ByteArray → Int
  | [], [] => 0
  | [], _ :: _ => -1
  | _ :: _, [] => 1
  | x :: a, y :: b => if compareBytes x.data.toList y.data.toList = 0 then cL a b else compareBytes x.data.toList y.data.toList
theorem cL_refl : ∀ a : List ByteArray, cL a a = 0
  | [] => rfl
  | x :: a => by rw [cL, if_pos (cb_refl _), cL_refl a]
theorem cL_neg : ∀ a b : List ByteArray, cL b a = -cL a b
  | [], [] => rfl
  | [], _ :: _ => rfl
  | _ :: _, [] => rfl
  | x :: a, y :: b => by
    rw [cL, cL, cb_neg x.data.toList y.data.toList, cL_neg a b]
    by_cases h : compareBytes x.data.toList y.data.toList = 0
    · rw [if_pos (by omega), if_pos h]
    · rw [if_neg (by omega), if_neg h]
theorem cL_three : ∀ a b : List ByteArray, cL a b = -1 ∨ cL a b = 0 ∨ cL a b = 1
  | [], [] => .inr (.inl rfl)
  | [], _ :: _ => .inl rfl
  | _ :: _, [] => .inr (.inr rfl)
  | x :: a, y :: b => by
    rw [cL]
    split
    · exact cL_three a b
    · exact cb_three _ _
theorem dat_inj {x y : ByteArray} (h : x.data.toList = y.data.toList) : x = y := by
  cases x; cases y
  congr 1
  exact Array.toList_inj.1 h
theorem cL_zero : ∀ a b : List ByteArray, cL a b = 0 → a = b
  | [], [], _ => rfl
  | [], _ :: _, h => by simp [cL] at h
  | _ :: _, [], h => by simp [cL] at h
  | x :: a, y :: b, h => by
    rw [cL] at h
    split at h
    · rename_i h1
      rw [dat_inj (cb_zero _ _ h1), cL_zero a b h]
    · rename_i h1
      exact absurd h h1
theorem cL_take : ∀ (l : List ByteArray) (k : Nat), k < l.length → cL (l.take k) l = -1
  | [], k, h => absurd h (by simp)
  | x :: l, 0, _ => rfl
  | x :: l, k + 1, h => by
    rw [List.take_succ_cons, cL, if_pos (cb_refl _)]
    exact cL_take l k (by simpa using h)
/-- what stands between a row and something that begins with it begins with it, too -/
theorem cL_between : ∀ (x y r : List ByteArray), cL x y = -1 → cL y (x ++ r) = -1 → ∃ k, k < y.length ∧ y.take k = x
  | [], [], r, h, _ => by simp [cL] at h
  | [], b :: y, r, _, _ => ⟨0, by simp, rfl⟩
  | a :: x, [], r, h, _ => by simp [cL] at h
  | a :: x, b :: y, r, h1, h2 => by
    rw [List.cons_append, cL] at h2
    rw [cL] at h1
    rw [cb_neg a.data.toList b.data.toList] at h2
    by_cases h : compareBytes a.data.toList b.data.toList = 0
    · rw [if_pos h] at h1
      rw [if_pos (by omega)] at h2
      obtain ⟨k, hk, ht⟩ := cL_between x y r h1 h2
      refine ⟨k + 1, by simpa using hk, ?_⟩
      rw [List.take_succ_cons, ht, dat_inj (cb_zero _ _ h)]
    · rw [if_neg h] at h1
      rw [if_neg (by omega)] at h2
      omega
/-- from an index on -/
theorem cL_same : ∀ (k : Nat) (a b : List ByteArray), a.take k = b.take k → cL a b = cL (a.drop k) (b.drop k)
  | 0, _, _, _ => rfl
  | k + 1, [], b, h => by
    rw [List.take_nil] at h
    cases b with
    | nil => rfl
    | cons y b => cases h
  | k + 1, x :: a, [], h => by cases h
  | k + 1, x :: a, y :: b, h => by
    rw [List.take_succ_cons, List.take_succ_cons] at h
    injection h with h1 h2
    subst h1
    rw [cL, if_pos (cb_refl _), List.drop_succ_cons, List.drop_succ_cons]
    exact cL_same k a b h2
theorem cL_at (k : Nat) (a b : List ByteArray) (ht : a.take k = b.take k) (ha : k < a.length) (hb : k < b.length) : cL a b = if compareBytes a[k].data.toList b[k].data.toList = 0 then cL (a.drop (k + 1)) (b.drop (k + 1)) else compareBytes a[k].data.toList b[k].data.toList := by
  rw [cL_same k a b ht, List.drop_eq_getElem_cons ha, List.drop_eq_getElem_cons hb, cL]
theorem cL_out (k : Nat) (a b : List ByteArray) (ht : a.take k = b.take k) (ha : a.length = k) : cL a b = if a.length < b.length then -1 else 0 := by
  rw [cL_same k a b ht, List.drop_eq_nil_of_le (by omega)]
  cases hd : b.drop k with
  | nil =>
    have : b.length - k = 0 := by rw [← List.length_drop, hd]; rfl
    rw [if_neg (by omega)]
    rfl
  | cons y t =>
    have : b.length - k = t.length + 1 := by rw [← List.length_drop, hd]; rfl
    rw [if_pos (by omega)]
    rfl
theorem cL_out2 (k : Nat) (a b : List ByteArray) (ht : a.take k = b.take k) (hb : b.length = k) (ha : k < a.length) : cL a b = 1 := by
  have hd : b.drop k = [] := List.drop_eq_nil_of_le (by omega)
  rw [cL_same k a b ht, hd, List.drop_eq_getElem_cons ha]
  rfl
/-- how two paths stand -/
def ordS (p q : ByteArray) : Int := if (partsS p).length = 0 ∧ (partsS q).length = 0 then compareBytes p.data.toList q.data.toList else cL (partsS p) (partsS q)
theorem ordS_neg (p q : ByteArray) : ordS q p = -ordS p q := by
  unfold ordS
  by_cases h : (partsS p).length = 0 ∧ (partsS q).length = 0
  · rw [if_pos h, if_pos ⟨h.2, h.1⟩, cb_neg]
  · rw [if_neg h, if_neg (fun e => h ⟨e.2, e.1⟩), cL_neg]
theorem ordS_three (p q : ByteArray) : ordS p q = -1 ∨ ordS p q = 0 ∨ ordS p q = 1 := by
  unfold ordS
  split
  · exact cb_three _ _
  · exact cL_three _ _
theorem parts_inj {p q : ByteArray} (h : partsS p = partsS q) (h0 : (partsS p).length ≠ 0) : p = q := by
  have hr : ∀ s : ByteArray, (partsS s).length ≠ 0 → rightL s.data.toList = true := fun s hs => by
    cases hr : rightL s.data.toList with
    | true => rfl
    | false => rw [partsS_not hr] at hs; exact absurd rfl hs
  have hp := partsS_right (hr p h0)
  have hq := partsS_right (hr q (by rw [← h]; exact h0))
  rw [hp, hq] at h
  apply dat_inj
  rw [← jn_spS p, ← jn_spS q, h]
theorem ordS_zero {p q : ByteArray} (h : ordS p q = 0) : p = q := by
  unfold ordS at h
  split at h
  · exact dat_inj (cb_zero _ _ h)
  · rename_i h1
    have h2 := cL_zero _ _ h
    exact parts_inj h2 (fun e => h1 ⟨e, by rw [← h2]; exact e⟩)
theorem ordS_refl (p : ByteArray) : ordS p p = 0 := by
  unfold ordS
  split
  · exact cb_refl _
  · exact cL_refl _
/-- the parts of an up -/
theorem ups_mem {s u : ByteArray} (h : u ∈ upsS s) : ∃ k, 1 ≤ k ∧ k < (partsS s).length ∧ partsS u = (partsS s).take k ∧ rightL u.data.toList = true := by
  obtain ⟨k, hk, rfl⟩ := List.getElem_of_mem h
  have hlen := upsS_len s
  have hst := ups_step s k hk
  have hr : rightL s.data.toList = true := by
    cases hr : rightL s.data.toList with
    | true => rfl
    | false => rw [partsS_not hr, List.length_nil] at hlen; omega
  refine ⟨k + 1, by omega, by omega, ?_, hst.2.2⟩
  rw [partsS_right hst.2.2, upsS_at, partsS_right hr]
  exact (right_take hr (k + 1) (by omega)).2
theorem ups_of {s u : ByteArray} {k : Nat} (h1 : 1 ≤ k) (h2 : k < (partsS s).length) (h3 : partsS u = (partsS s).take k) : u ∈ upsS s := by
  have hlen := upsS_len s
  have hk : k - 1 < (upsS s).length := by omega
  have hu := upsS_at s (k - 1) hk
  have hm : (upsS s)[k - 1] ∈ upsS s := List.getElem_mem hk
  obtain ⟨_, _, _, _, h5⟩ := ups_mem hm
  have hr : rightL s.data.toList = true := by
    cases hr : rightL s.data.toList with
    | true => rfl
    | false => rw [partsS_not hr, List.length_nil] at hlen; omega
  have hp : partsS (upsS s)[k - 1] = (partsS s).take k := by
    rw [partsS_right h5, hu, partsS_right hr, show k - 1 + 1 = k by omega]
    exact (right_take hr k h1).2
  have : (upsS s)[k - 1] = u := parts_inj (by rw [hp, h3]) (by rw [hp, List.length_take]; omega)
  rw [← this]
  exact hm
theorem ups_order {p u : ByteArray} (h : u ∈ upsS p) : ordS u p = -1 := by
  obtain ⟨k, h1, h2, h3, _⟩ := ups_mem h
  unfold ordS
  rw [if_neg (by omega), h3]
  exact cL_take _ _ h2
theorem between {p q s : ByteArray} (h : p ∈ upsS q) (hr : rightL s.data.toList = true) (h1 : ordS p s = -1) (h2 : ordS s q = -1) : p ∈ upsS s := by
  obtain ⟨k, hk1, hk2, h3, _⟩ := ups_mem h
  have hs0 : 0 < (partsS s).length := by
    rw [partsS_right hr]
    exact List.length_pos_iff.2 (spS_ne s)
  have hp0 : (partsS p).length = k := by rw [h3, List.length_take]; omega
  unfold ordS at h1 h2
  rw [if_neg (by omega)] at h1 h2
  obtain ⟨j, hj, hje⟩ := cL_between (partsS p) (partsS s) ((partsS q).drop k) h1 (by rw [h3, List.take_append_drop]; exact h2)
  have hjk : j = k := by
    rw [← hp0, ← hje, List.length_take]; omega
  subst hjk
  exact ups_of hk1 hj hje.symm
end Sw
/- Contracts of name.Parts, Parent, Base, Ups, and of the reference's Ups. -/
set_option linter.unusedVariables false
set_option linter.unusedSimpArgs false
namespace Go.Proofs.YtjcbjocgachpjaaGreatDoor
open Go Go.RowKit
open Sw
/-- texts that can be read -/
def SlPost (l : List ByteArray) (w : World) (e : Ending) (w' : World) : Prop := ∃ v, e = .returned v ∧ SlV w' 1 bE v l ∧ Below w.heap.size w w'
theorem flat_bE (l : List ByteArray) : l.flatMap bE = l.map Value.string := by
  induction l with
  | nil => rfl
  | cons a l ih => rw [List.flatMap_cons, ih]; rfl
set_option maxRecDepth 100000 in
set_option maxHeartbeats 1000000 in
theorem parts_any (w : World) (s : ByteArray) (hs : s.size ≤ 100000) :
    Calls Tryz.prog 72 #[.string s] w (SlPost (partsS s) w) := by
  have HR := Lib.hid (right_any w s (by omega))
  have HS := Lib.hid (fun W => split_one W s hs)
  have hlen := spS_len s
  have hp := partsS_right (s := s)
  have hn := partsS_not (s := s)
  have hF1 := fun (w1 w2 : World) (hb1 : Below w.heap.size w w1) (h : w2 = w1.alloc (.cells ((spS s).map Value.string).toArray 9)) => (show SlV w2 1 bE (.slice (some ⟨w1.heap.size, 0, none⟩) (spS s).length (spS s).length) (spS s) ∧ Below w.heap.size w w2 from by
    subst h
    have hB := Blk.new w1 9 ((spS s).map Value.string).toArray
    refine ⟨⟨_, _, rfl, Nat.le_refl _, by unfold maxLen; omega, fun _ => ⟨w1.heap.size, 0, rfl, hB.lt, fun i hi j hj => ?_⟩⟩, hb1.alloc hb1.size _⟩
    have hj0 : j = 0 := by omega
    subst hj0
    rw [hB.cell]
    simp [bE, List.getElem?_eq_getElem hi])
  generalize rightL s.data.toList = U at *
  cases U with
  | false =>
    have HF := Lib.hid (fun (w1 : World) (hb1 : Below w.heap.size w w1) => (show SlPost (partsS s) w (.returned (.slice none 0 0)) w1 from ⟨_, rfl, by rw [hn rfl]; exact ⟨none, 0, rfl, Nat.le_refl _, by unfold maxLen; omega, SlOf.nil _ _ _ _⟩, hb1⟩))
    clear hp hn hF1
    go_enter Tryz.func72, Tryz.ntmps72
    go_wp2_with fail
    refine HR.out.mono ?_
    rintro e w1 ⟨rfl, hb1⟩
    have HG := Lib.hid (HF.out w1 hb1)
    go_wp2_with fail
    go_ret
    exact HG.out
  | true =>
    have HF := Lib.hid (fun (w1 w2 : World) (hb1 : Below w.heap.size w w1) (h : w2 = w1.alloc (.cells ((spS s).map Value.string).toArray 9)) => (show SlPost (partsS s) w (.returned (.slice (some ⟨w1.heap.size, 0, none⟩) (spS s).length (spS s).length)) w2 from ⟨_, rfl, by rw [hp rfl]; exact (hF1 w1 w2 hb1 h).1, (hF1 w1 w2 hb1 h).2⟩))
    clear hp hn hF1
    go_enter Tryz.func72, Tryz.ntmps72
    go_wp2_with fail
    refine HR.out.mono ?_
    rintro e w1 ⟨rfl, hb1⟩
    go_wp2_with fail
    refine (HS.out w1).mono ?_
    rintro e w2 ⟨rfl, hw2⟩
    have HG := Lib.hid (HF.out w1 w2 hb1 hw2)
    clear hw2
    go_wp2_with fail
    go_ret
    exact HG.out
theorem last_47 (w : World) (s : ByteArray) (hs : s.size ≤ 1000000) :
    Calls Tryz.prog 144 #[.string s, .string ⟨#[47]⟩] w fun e w' => e = .returned (.int .i64 (Lib.lastIndexByte s 47)) ∧ w' = w :=
  Tryz.strings_LastIndex_one s ⟨#[47]⟩ rfl (by omega) w
set_option maxRecDepth 100000 in
set_option maxHeartbeats 1000000 in
theorem parent_any (w : World) (s : ByteArray) (hs : s.size ≤ 100000) :
    Calls Tryz.prog 112 #[.string s] w fun e w' => e = .returned (.string (parentS s)) ∧ Below w.heap.size w w' := by
  have HR := Lib.hid (right_any w s (by omega))
  have HL := Lib.hid (last_47 w s (by omega))
  rcases Lib.lastIndexByte_spec s 47 with ⟨hi, hno⟩ | ⟨i, hlt, hi, h1, h2⟩
  · have hp : parentS s = ⟨#[]⟩ := by
      cases hr : rightL s.data.toList with
      | false => exact (parent_not hr).1
      | true =>
        unfold parentS
        rw [partsS_right hr, last_miss hno]
        rfl
    rw [hi] at HL
    have HP := Lib.hid hp; clear hp hno hi
    go_enter Tryz.func112, Tryz.ntmps112
    go_wp2_with fail
    refine HL.out.mono ?_
    rintro e w1 ⟨rfl, rfl⟩
    go_wp2_with fail
    go_ret
    exact ⟨by rw [HP.out]; first | done | rfl, Below.refl _ _⟩
  · have hsp := last_hit hlt h1 h2
    rw [hi] at HL
    cases hr : rightL s.data.toList with
    | false =>
      rw [hr] at HR
      have HP := Lib.hid (parent_not hr).1
      clear hsp h1 h2 hi hr
      go_enter Tryz.func112, Tryz.ntmps112
      go_wp2_with fail
      refine HL.out.mono ?_
      rintro e w1 ⟨rfl, rfl⟩
      go_wp2_with fail
      refine HR.out.mono ?_
      rintro e w2 ⟨rfl, hb2⟩
      go_wp2_with fail
      go_ret
      exact ⟨by rw [HP.out]; first | done | rfl, hb2⟩
    | true =>
      rw [hr] at HR
      have HP := Lib.hid (show parentS s = s.extract 0 i by
        unfold parentS
        rw [partsS_right hr, hsp, List.dropLast_concat, jn_spS, mkB_data])
      have hiI : (i : Int) ≤ s.size := by omega
      clear hsp h1 h2 hi hr
      go_enter Tryz.func112, Tryz.ntmps112
      go_wp2_with fail
      refine HL.out.mono ?_
      rintro e w1 ⟨rfl, rfl⟩
      go_wp2_with fail
      refine HR.out.mono ?_
      rintro e w2 ⟨rfl, hb2⟩
      go_wp2_with fail
      go_ret
      exact ⟨by rw [HP.out]; first | done | rfl, hb2⟩
end Go.Proofs.YtjcbjocgachpjaaGreatDoor
/- Contracts of name.Ups and of the reference's Ups. -/
set_option linter.unusedVariables false
set_option linter.unusedSimpArgs false
namespace Sw
open Go Go.RowKit
def slLen : Value → Nat
  | .slice _ n _ => n
  | _ => 0
theorem own_slLen {w : World} {base : Nat} {e : TypeId} {size n : Nat} {v : Value} {xs : List Value} (h : w.ownsRow base e size v n xs) : slLen v = n := by
  rcases h.2 with ⟨rfl, h0⟩ | ⟨g, cap, cur, rfl, _⟩
  · exact h0.symm
  · rfl
end Sw
namespace Go.Proofs.YtjcbjocgachpjaaGreatDoor
open Go Go.RowKit
open Sw
set_option maxRecDepth 100000 in
theorem rev_nil (w : World) (A : Option Addr) (c : Nat) :
    Calls Tryz.prog 169 #[.slice A 0 c] w fun e w' => e = .returned (.tuple #[]) ∧ w = w' := by
  go_enter Tryz.func169, Tryz.ntmps169
  go_wp2_with fail
  go_loopw [2, 3] (fun i j wr => i = .int .i64 0 ∧ j = .int .i64 (-1) ∧ w = wr) (fun _ _ _ => 0)
  case atStart => exact ⟨rfl, rfl, rfl⟩
  case round =>
    obtain ⟨rfl, rfl, rfl⟩ := hrel
    go_wp2_with fail
    go_end0
    exact ⟨rfl, rfl⟩
/-- texts turned round -/
theorem rev_own (w : World) (base : Nat) (v : Value) (l : List ByteArray) (hown : w.ownsRow base 9 1 v l.length (l.flatMap bE)) (hl : l.length ≤ 100000) :
    Calls Tryz.prog 169 #[v] w fun e w' => e = .returned (.tuple #[]) ∧ SlV w' 1 bE v l.reverse ∧ Below base w w' := by
  by_cases h0 : l.length = 0
  · have hl0 : l = [] := List.length_eq_zero_iff.1 h0
    obtain ⟨A, c, rfl, hc, hm, hsl⟩ := SlV.of_own hown bE_len (by omega)
    subst hl0
    exact (rev_nil w A c).mono fun e w' h => ⟨h.1, ⟨A, c, rfl, Nat.zero_le _, hm, SlOf.nil _ _ _ _⟩, by rw [← h.2]; exact Below.refl _ _⟩
  · rcases hown.2 with ⟨_, h⟩ | ⟨g, cap, cur, rfl, hb, hh, hc, hm, hsz, hx⟩
    · omega
    · have hcell : ∀ i, i < l.length → w.cell? ⟨g, 0 + i, none⟩ = some (.string (l.getD i ByteArray.empty)) := fun i hi => by
        have := hown.cells (g := g) rfl i (.string l[i]) (by rw [flat_bE]; simp [List.getElem?_eq_getElem hi])
        rw [add_mk] at this
        rw [this, List.getD_eq_getElem?_getD, List.getElem?_eq_getElem hi]
        rfl
      have hfr : ∀ i, i < l.length → w.frozen? ⟨g, 0 + i, none⟩ = false := fun i hi => by
        have hB : Blk w g 9 cur := hh
        exact hB.frozen (0 + i)
      refine (Tryz.slices_Reverse_string_cells g 0 l.length cap (fun i => l.getD i ByteArray.empty) w (by omega) hcell hfr).mono ?_
      rintro e w' ⟨rfl, q, rfl⟩
      have hstr : (Lib.strsOf (fun i => l.getD i ByteArray.empty) l.length).reverse.map Go.Proofs.encStr = l.reverse.map Value.string := by
        have h1 : Lib.strsOf (fun i => l.getD i ByteArray.empty) l.length = l.map fun b => b.data.toList := by
          unfold Lib.strsOf
          apply List.ext_getElem
          · simp
          · intro i h1 h2
            have hi : i < l.length := by simpa using h2
            simp [List.getD_eq_getElem?_getD, List.getElem?_eq_getElem hi]
        rw [h1, ← List.map_reverse, List.map_map]
        exact List.map_congr_left fun a _ => congrArg Value.string (mkB_data a)
      rw [hstr]
      have hlt : g < w.heap.size := (Array.getElem?_eq_some_iff.1 hh).1
      refine ⟨rfl, ⟨some ⟨g, 0, none⟩, cap, by simp, by simpa using hc, hm, fun hn => ⟨g, 0, rfl, ?_, fun i hi j hj => ?_⟩⟩, ?_⟩
      · have := (Go.Lib.below_setCells_w (B := base) hb (l.reverse.map Value.string) 0 (w.drewN q)).size
        exact Nat.lt_of_lt_of_le hlt this
      · have hj0 : j = 0 := by omega
        subst hj0
        have hin := World.cell?_setCells_in g (l.reverse.map Value.string) 0 (w.drewN q) (fun j hj => by
          have hj' : j < l.length := by simpa using hj
          have := hcell j hj'
          show ((w.drewN q).cell? ⟨g, 0 + j, none⟩).isSome = true
          rw [show (w.drewN q).cell? ⟨g, 0 + j, none⟩ = w.cell? ⟨g, 0 + j, none⟩ from rfl, this]
          rfl) i (by simpa using hi)
        rw [Nat.mul_one, Nat.add_zero, hin]
        simp [bE]
      · have h1 := Go.Lib.below_setCells_w (B := base) hb (l.reverse.map Value.string) 0 (w.drewN q)
        exact below_of_drewN h1
set_option maxRecDepth 100000 in
set_option maxHeartbeats 4000000 in
theorem ups_any (w : World) (s : ByteArray) (hs : s.size ≤ 90000) :
    Calls Tryz.prog 146 #[.string s] w (SlPost (upsS s) w) := by
  have HP0 := Lib.hid (parent_any w s (by omega))
  rw [ups_start] at HP0
  have hstep := ups_step s
  have hlenU : (upsS s).length ≤ 90001 := by
    have h1 := upsS_len s
    have h2 : (partsS s).length ≤ s.size + 1 := by
      unfold partsS
      split
      · exact spS_len s
      · simp
    omega
  generalize upsS s = U at *
  have HST := Lib.hid hstep; clear hstep
  have HF := Lib.hid (fun v w' (h : SlV w' 1 bE v U) (hb : Below w.heap.size w w') => (show SlPost U w (.returned v) w' from ⟨v, rfl, h, hb⟩))
  have hp0 : pAt U 0 = ⟨#[]⟩ := by unfold pAt; rw [dif_neg (by omega)]
  have HP1 := Lib.hid hp0; clear hp0
  go_enter Tryz.func146, Tryz.ntmps146
  go_wp2_with fail
  refine HP0.out.mono ?_
  rintro e w1 ⟨rfl, hb1⟩
  go_wp2_with fail
  go_loopw [0, 2] (fun p o wr => ∃ k, k ≤ U.length ∧ p = .string (pAt U k) ∧ wr.ownsRow w.heap.size 9 1 o (U.length - k) ((U.drop k).reverse.flatMap bE) ∧ Below w.heap.size w wr) (fun _ o _ => U.length - slLen o)
  case atStart => exact ⟨U.length, Nat.le_refl _, rfl, by rw [Nat.sub_self, List.drop_length]; exact ⟨rfl, .inl ⟨rfl, rfl⟩⟩, hb1⟩
  case round =>
    obtain ⟨k, hk, rfl, hown, hbr⟩ := hrel
    cases k with
    | zero =>
      rw [HP1.out]
      rw [List.drop_zero, Nat.sub_zero] at hown
      have hrev := rev_own wr w.heap.size u2 U.reverse (by rw [List.length_reverse]; exact hown) (by rw [List.length_reverse]; omega)
      rw [List.reverse_reverse] at hrev
      have HREV := Lib.hid hrev; clear hrev hown
      have he : (⟨#[]⟩ : ByteArray).toList.isEmpty = true := by rw [str_empty]; exact decide_eq_true rfl
      go_wp2_with fail
      refine HREV.out.mono ?_
      rintro e w5 ⟨rfl, hsl, hb5⟩
      have HG := Lib.hid (HF.out _ w5 hsl (hbr.trans hb5))
      clear hsl
      go_wp2_with fail
      go_ret
      exact HG.out
    | succ k =>
      have hkl : k < U.length := by omega
      obtain ⟨h1, h2, h3⟩ := HST.out k hkl
      have hpos := right_pos h3
      have hPar := fun W => parent_any W U[k] (by omega)
      rw [h1] at hPar
      have hne : U[k].toList.isEmpty = false := by
        rw [str_empty]
        refine decide_eq_false fun e => ?_
        rw [e] at hpos
        exact absurd hpos (by decide)
      have hdr : (U.drop k).reverse.flatMap bE = (U.drop (k + 1)).reverse.flatMap bE ++ [.string U[k]] := by
        rw [List.drop_eq_getElem_cons hkl, List.reverse_cons, flat_snoc]
      have hlen : U.length - k = U.length - (k + 1) + 1 := by omega
      have hsl := own_slLen hown
      rw [pAt_succ U k hkl]
      have HPAR := Lib.hid hPar; clear hPar h1 h2 h3 hpos
      have HDR := Lib.hid (And.intro hdr hlen); clear hdr hlen
      generalize U[k] = X at *
      have hl6 : U.length - (k + 1) + 1 ≤ 1000000 := by omega
      have HO := Lib.hid hown; clear hown
      obtain ⟨m, hm⟩ : ∃ m, m = U.length - (k + 1) := ⟨_, rfl⟩
      rw [← hm] at HO HDR hl6 hsl
      have HM := Lib.hid hm; clear hm
      go_wp2_with (refine wpList_app rfl _ _ 66 rfl w.heap.size 9 (.string ByteArray.empty) 1 16 Tryz.underlying66 info_str rfl (by omega) u2 m ((U.drop (k + 1)).reverse.flatMap bE) (by simp [Act.eval, Act.put]) (own_kept HO.out ((Below.refl _ _).alloc (Nat.le_refl _) _)) wr.heap.size 1 _ _ (by simp [Act.eval, Act.put]) (Blk.new _ _ _) rfl (by simp [Value.oneCell']) hl6 (by omega) (by have := hbr.size; simp; omega) _ rfl ?_; intro g2 cap2 w5 ho2 hg2 hat2 hlt2)
      have hw5 : Below w.heap.size w w5 := own_below HO.out (hbr.alloc hbr.size _) hg2 (Nat.le_refl _) (by have := hbr.size; simp; omega)
      refine (HPAR.out _).mono ?_
      rintro e w6 ⟨rfl, hb6⟩
      have ho6 := own_kept ho2 hb6
      go_wp2_with fail
      go_roundw
      case rel => exact ⟨k, by omega, rfl, by rw [HDR.out.1, HDR.out.2]; exact ho6, hw5.trans (hb6.mono hw5.size)⟩
      case measure => have := HM.out; rw [hsl]; simp [slLen]; omega
end Go.Proofs.YtjcbjocgachpjaaGreatDoor
/- The contract of the reference's Ups. -/
set_option linter.unusedVariables false
set_option linter.unusedSimpArgs false
namespace Go.Proofs.YtjcbjocgachpjaaGreatDoor
open Go Go.RowKit
open Sw
theorem partsS_wt (s : ByteArray) : wt (partsS s) ≤ s.size + 1 := by
  unfold partsS
  split
  · rw [spS_wt]; omega
  · exact Nat.zero_le _
theorem wt_take (l : List ByteArray) : ∀ k, wt (l.take k) ≤ wt l := by
  induction l with
  | nil => intro k; simp
  | cons x l ih =>
    intro k
    cases k with
    | zero => simp [wt]
    | succ k => rw [List.take_succ_cons, wt_cons, wt_cons]; have := ih k; omega
set_option maxRecDepth 100000 in
set_option maxHeartbeats 4000000 in
theorem refUps_any (w : World) (s : ByteArray) (hs : s.size ≤ 90000) :
    Calls Tryz.prog 68 #[.string s] w (SlPost (upsS s) w) := by
  have HP := Lib.hid (refParts_any w s (by omega))
  have hwt := partsS_wt s
  have hwl := wt_len (partsS s)
  have hUl := upsS_len s
  have hUa := upsS_at s
  generalize upsS s = U at *
  generalize partsS s = L at *
  have HUA := Lib.hid hUa; clear hUa
  have HF := Lib.hid (fun v w' (h : SlV w' 1 bE v U) (hb : Below w.heap.size w w') => (show SlPost U w (.returned v) w' from ⟨v, rfl, h, hb⟩))
  go_enter Tryz.func68, Tryz.ntmps68
  go_wp2_with fail
  refine HP.out.mono ?_
  rintro e w1 ⟨v, rfl, hown, hb1⟩
  obtain ⟨A, c, rfl, hc, hm, hsl⟩ := SlV.of_own hown bE_len (by omega)
  unfold maxLen at hm
  obtain ⟨N, hN⟩ : ∃ N, L.length = N := ⟨_, rfl⟩
  have HN := Lib.hid hN
  rw [hN] at hc hwl hUl ⊢
  clear hN hown
  have HSL := Lib.hid hsl; clear hsl
  have HUL := Lib.hid hUl; clear hUl
  go_wp2_with fail
  go_loopw [3, 5] (fun o iv wr => ∃ n : Nat, 1 ≤ n ∧ n ≤ max 1 N ∧ iv = .int .i64 n ∧ wr.ownsRow w1.heap.size 9 1 o (n - 1) ((U.take (n - 1)).flatMap bE) ∧ Below w1.heap.size w1 wr) (fun _ iv _ => N - (intOf iv).toNat)
  case atStart => exact ⟨1, Nat.le_refl _, by omega, rfl, ⟨rfl, .inl ⟨rfl, rfl⟩⟩, Below.refl _ _⟩
  case round =>
    obtain ⟨n, hn1, hnN, rfl, hown, hbr⟩ := hrel
    by_cases hlt : n < N
    · obtain ⟨k, rfl⟩ : ∃ k, n = k + 1 := ⟨n - 1, by omega⟩
      have hkU : k < U.length := by have := HUL.out; omega
      have hj := refJoin_any wr A (k + 1) c (L.take (k + 1)) (by rw [List.length_take]; have := HN.out; omega) (by unfold maxLen; omega) ((HSL.out.below hbr (Nat.le_refl _)).take (k + 1)) (by have h1 := wt_jn (L.take (k + 1)); have h2 := wt_take L (k + 1); omega)
      rw [← HUA.out k hkU] at hj
      have hdr : (U.take (k + 1)).flatMap bE = (U.take k).flatMap bE ++ [.string U[k]] := by
        rw [List.take_succ_eq_append_getElem hkU, flat_snoc]
      have HDR := Lib.hid hdr; clear hdr
      have HJ := Lib.hid hj; clear hj
      rw [Nat.add_sub_cancel] at hown
      generalize U[k] = X at *
      have hl6 : k + 1 ≤ 1000000 := by omega
      have hkI : (k : Int) + 1 < N := by omega
      have hkc : (k : Int) + 1 ≤ c := by omega
      have HO := Lib.hid hown; clear hown
      go_wp2_with fail
      refine HJ.out.mono ?_
      rintro e w2 ⟨rfl, rfl⟩
      go_wp2_with (refine wpList_app rfl _ _ 66 rfl w1.heap.size 9 (.string ByteArray.empty) 1 16 Tryz.underlying66 info_str rfl (by omega) u3 k ((U.take k).flatMap bE) (by simp [Act.eval, Act.put]) (own_kept HO.out ((Below.refl _ _).alloc (Nat.le_refl _) _)) wr.heap.size 1 _ _ (by simp [Act.eval, Act.put]) (Blk.new _ _ _) rfl (by simp [Value.oneCell']) hl6 (by omega) (by have := hbr.size; simp; omega) _ rfl ?_; intro g2 cap2 w5 ho2 hg2 hat2 hlt2)
      have hw5 : Below w1.heap.size w1 w5 := own_below HO.out (hbr.alloc hbr.size _) hg2 (Nat.le_refl _) (by have := hbr.size; simp; omega)
      go_roundw
      case rel => exact ⟨k + 1 + 1, by omega, by omega, by go_num, by rw [Nat.add_sub_cancel, HDR.out]; exact ho2, hw5⟩
      case measure => simp [intOf]; omega
    · have hU : U.take (n - 1) = U := List.take_of_length_le (by have := HUL.out; omega)
      rw [hU] at hown
      have hsl := SlV.of_own hown bE_len (by omega)
      have HG := Lib.hid (HF.out _ wr hsl (hb1.trans (hbr.mono hb1.size)))
      have hltI : ¬ (n : Int) < N := by omega
      clear hsl hown hU
      go_wp2_with fail
      go_ret
      exact HG.out
end Go.Proofs.YtjcbjocgachpjaaGreatDoor
/- Contracts of cmp.Compare and slices.Compare at texts, of name.Order, name.Under, and of the reference's Before. -/
set_option linter.unusedVariables false
set_option linter.unusedSimpArgs false
namespace Sw
open Go Go.RowKit
open Go.Lib (compareBytes)
theorem toList_data (x : ByteArray) : x.toList = x.data.toList := ByteArray.toList_eq x
theorem less_str (x y : ByteArray) : Op.bytesLess x.toList y.toList = decide (compareBytes x.data.toList y.data.toList = -1) := by
  rw [toList_data, toList_data, less_cb]
theorem eq_str (x y : ByteArray) : (x.toList == y.toList) = decide (compareBytes x.data.toList y.data.toList = 0) := by
  rw [toList_data, toList_data]
  by_cases h : x.data.toList = y.data.toList
  · rw [decide_eq_true ((cb_zero_iff _ _).2 h), h, beq_self_eq_true]
  · rw [decide_eq_false (fun e => h ((cb_zero_iff _ _).1 e)), beq_eq_false_iff_ne]
    exact h
end Sw
namespace Go.Proofs.YtjcbjocgachpjaaGreatDoor
open Go Go.RowKit
open Sw
open Go.Lib (compareBytes)
theorem isNaN_any (w : World) (x : ByteArray) :
    Calls Tryz.prog 143 #[.string x] w fun e w' => e = .returned (.bool false) ∧ w = w' := by
  have hx : (x.toList == x.toList) = true := by simp
  go_enter Tryz.func143, Tryz.ntmps143
  go_wp2_with fail
  go_ret
  exact ⟨by simp, rfl⟩
theorem cmpStr_any (w : World) (x y : ByteArray) :
    Calls Tryz.prog 111 #[.string x, .string y] w fun e w' => e = .returned (.int .i64 (compareBytes x.data.toList y.data.toList)) ∧ w = w' := by
  have h1 := less_str x y
  have h2 := eq_str x y
  have h3 := cb_three x.data.toList y.data.toList
  generalize compareBytes x.data.toList y.data.toList = c at *
  rcases h3 with rfl | rfl | rfl
  · rw [decide_eq_true rfl] at h1
    rw [decide_eq_false (by omega)] at h2
    go_enter Tryz.func111, Tryz.ntmps111
    go_wp2_with (go_at_call 143; refine (isNaN_any _ _).mono ?_; rintro e w1 ⟨rfl, rfl⟩)
    go_ret
    exact ⟨rfl, rfl⟩
  · rw [decide_eq_false (by omega)] at h1
    rw [decide_eq_true rfl] at h2
    go_enter Tryz.func111, Tryz.ntmps111
    go_wp2_with (go_at_call 143; refine (isNaN_any _ _).mono ?_; rintro e w1 ⟨rfl, rfl⟩)
    go_ret
    exact ⟨rfl, rfl⟩
  · rw [decide_eq_false (by omega)] at h1
    rw [decide_eq_false (by omega)] at h2
    go_enter Tryz.func111, Tryz.ntmps111
    go_wp2_with (go_at_call 143; refine (isNaN_any _ _).mono ?_; rintro e w1 ⟨rfl, rfl⟩)
    go_ret
    exact ⟨rfl, rfl⟩
set_option maxRecDepth 100000 in
set_option maxHeartbeats 2000000 in
theorem slCmp_any (w : World) (v1 v2 : Value) (l m : List ByteArray) (h1 : SlV w 1 bE v1 l) (h2 : SlV w 1 bE v2 m) :
    Calls Tryz.prog 74 #[v1, v2] w fun e w' => e = .returned (.int .i64 (cL l m)) ∧ w = w' := by
  obtain ⟨A1, c1, rfl, hc1, hm1, s1⟩ := h1
  obtain ⟨A2, c2, rfl, hc2, hm2, s2⟩ := h2
  unfold maxLen at hm1 hm2
  have hat := fun k => cL_at k l m
  have hout := fun k => cL_out k l m
  have hout2 := fun k => cL_out2 k l m
  have htk : ∀ k, l.take k = m.take k → ∀ (k1 : k < l.length) (k2 : k < m.length), compareBytes l[k].data.toList m[k].data.toList = 0 → l.take (k + 1) = m.take (k + 1) := fun k h k1 k2 hc => by
    rw [List.take_succ_eq_append_getElem k1, List.take_succ_eq_append_getElem k2, h, dat_inj (cb_zero _ _ hc)]
  obtain ⟨N, hN⟩ : ∃ N, l.length = N := ⟨_, rfl⟩
  obtain ⟨M, hM⟩ : ∃ M, m.length = M := ⟨_, rfl⟩
  obtain ⟨R, hR⟩ : ∃ R, cL l m = R := ⟨_, rfl⟩
  rw [hN] at hc1 ⊢
  rw [hM] at hc2 ⊢
  rw [hR] at hat hout hout2 ⊢
  rw [hN, hM] at hout hout2
  have HA := Lib.hid (And.intro hat (And.intro hout (And.intro hout2 htk))); clear hat hout hout2 htk
  have HL := Lib.hid (And.intro hN hM); clear hN hM
  have HS := Lib.hid (And.intro s1 s2); clear s1 s2 hR
  go_enter Tryz.func74, Tryz.ntmps74
  go_wp2_with fail
  go_loopw [4, 5, 6, 7, 8, 11] (fun r _ _ _ _ iv wr => ∃ k : Nat, k ≤ N ∧ r = .int .i64 0 ∧ iv = .int .i64 k ∧ l.take k = m.take k ∧ w = wr) (fun _ _ _ _ _ iv _ => N - (intOf iv).toNat)
  case atStart => exact ⟨0, Nat.zero_le _, rfl, rfl, by simp, rfl⟩
  case round =>
    obtain ⟨k, hk, rfl, rfl, htk, rfl⟩ := hrel
    have HT := Lib.hid htk; clear htk
    by_cases hlt : k < N
    · have k1 : k < l.length := by have := HL.out; omega
      obtain ⟨b1, o1, rfl, _, q1⟩ := HS.out.1 (by omega)
      have g1 := q1 k k1 0 (by omega)
      simp [bE] at g1
      have i1 : (k : Int) < N := by omega
      by_cases hlt2 : k < M
      · have k2 : k < m.length := by have := HL.out; omega
        obtain ⟨b2, o2, rfl, _, q2⟩ := HS.out.2 (by omega)
        have g2 := q2 k k2 0 (by omega)
        simp [bE] at g2
        have i2 : (k : Int) < M := by omega
        have i3 : ¬ (M : Int) ≤ k := by omega
        have HX := Lib.hid (HA.out.1 k HT.out k1 k2)
        have HY := Lib.hid (HA.out.2.2.2 k HT.out k1 k2)
        have HC := Lib.hid (cmpStr_any w l[k] m[k])
        clear q1 q2
        generalize l[k] = x at *
        generalize m[k] = y at *
        generalize compareBytes x.data.toList y.data.toList = cc at *
        by_cases hc0 : cc = 0
        · have HNX := Lib.hid (HY.out hc0)
          subst hc0
          go_wp2_with fail
          refine HC.out.mono ?_
          rintro e w2 ⟨rfl, rfl⟩
          go_wp2_with fail
          go_roundw
          case rel => exact ⟨k + 1, by omega, rfl, by go_num, HNX.out, by simp⟩
          case measure => simp [intOf]; omega
        · have hR : R = cc := by have := HX.out; rw [if_neg hc0] at this; exact this
          subst hR
          have hcb : (R == 0) = false := by rw [beq_eq_false_iff_ne]; exact hc0
          go_wp2_with fail
          refine HC.out.mono ?_
          rintro e w2 ⟨rfl, rfl⟩
          go_wp2_with fail
          go_ret
          exact ⟨rfl, rfl⟩
      · obtain hMk : M ≤ k := by omega
        have htm : m.length = M := HL.out.2
        have hR : R = 1 := by
          have hm' : m.take k = m := List.take_of_length_le (by omega)
          have hlen := congrArg List.length HT.out
          rw [List.length_take, hm', htm] at hlen
          have : M = k := by have := HL.out.1; omega
          exact HA.out.2.2.1 k HT.out this hlt
        subst hR
        have i3 : (M : Int) ≤ k := by omega
        clear htm
        go_wp2_with fail
        go_ret
        exact ⟨rfl, rfl⟩
    · obtain rfl : k = N := by omega
      have hR := HA.out.2.1 k HT.out rfl
      by_cases hkm : k < M
      · rw [if_pos hkm] at hR
        subst hR
        have i3 : (k : Int) < M := by omega
        clear hlt
        go_wp2_with fail
        go_ret
        exact ⟨rfl, rfl⟩
      · rw [if_neg hkm] at hR
        subst hR
        have i3 : ¬ (k : Int) < M := by omega
        clear hlt
        go_wp2_with fail
        go_ret
        exact ⟨rfl, rfl⟩
end Go.Proofs.YtjcbjocgachpjaaGreatDoor
