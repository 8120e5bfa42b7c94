/- Several texts, joined for the limit of sixty files; each one opens with its own comment. -/
import Derived.Test.YtjcbjocgachpjaaGreatDoorJoin6
import Derived.Test.YtjcbjocgachpjaaGreatDoorJoin1
import Derived.Test.YtjcbjocgachpjaaGreatDoorRows
import Derived.Test.YtjcbjocgachpjaaGreatDoorJoin13
import Derived.Test.YtjcbjocgachpjaaGreatDoorJoin14
import Derived.StillTailTactics
import Derived.Test.YtjcbjocgachpjaaGreatDoorJoin10
import Derived.Test.YtjcbjocgachpjaaGreatDoorJoin15
import Derived.Test.YtjcbjocgachpjaaGreatDoorJoin8
import Derived.Test.YtjcbjocgachpjaaGreatDoorChecked
import Derived.Test.YtjcbjocgachpjaaGreatDoorJoin5
import Derived.RegionTactic
import Derived.BigRegion
import Derived.Deep.RegionLaw
import Derived.Test.YtjcbjocgachpjaaGreatDoorJoin17
import Derived.Lib.AppendZeros
/- What stands between signs of one kind, and the contract of strings.Split at any one byte. -/
set_option linter.unusedVariables false
set_option linter.unusedSimpArgs false
namespace Sw
open Go Go.RowKit
/-- what stands between bytes c -/
def wdL (c : UInt8) : List UInt8 → List (List UInt8)
  | [] => [[]]
  | b :: l => if b = c then [] :: wdL c l else (b :: (wdL c l).headD []) :: (wdL c l).tail
theorem wdL_ne (c : UInt8) (l : List UInt8) : wdL c l ≠ [] := by
  cases l with
  | nil => simp [wdL]
  | cons b l => rw [wdL]; split <;> simp
theorem wdL_head (c : UInt8) (l : List UInt8) : (wdL c l).headD [] :: (wdL c l).tail = wdL c l := by
  cases h : wdL c l with
  | nil => exact absurd h (wdL_ne c l)
  | cons a t => rfl
theorem wdL_app (c : UInt8) : ∀ (a r : List UInt8), c ∉ a → wdL c (a ++ c :: r) = a :: wdL c r
  | [], r, _ => by rw [List.nil_append, wdL, if_pos rfl]
  | b :: a, r, h => by
    rw [List.mem_cons, not_or] at h
    rw [List.cons_append, wdL, if_neg (fun e => h.1 e.symm), wdL_app c a r h.2]
    rfl
theorem wdL_none (c : UInt8) : ∀ (a : List UInt8), c ∉ a → wdL c a = [a]
  | [], _ => rfl
  | b :: a, h => by
    rw [List.mem_cons, not_or] at h
    rw [wdL, if_neg (fun e => h.1 e.symm), wdL_none c a h.2]
    rfl
theorem wdL_len (c : UInt8) : ∀ l : List UInt8, (wdL c l).length ≤ l.length + 1
  | [] => by simp [wdL]
  | b :: l => by
    have := wdL_len c l
    rw [wdL]
    split
    · simp; omega
    · have h := congrArg List.length (wdL_head c l)
      simp at h ⊢
      omega
theorem wdL_count (c : UInt8) : ∀ l : List UInt8, (wdL c l).length = l.count c + 1
  | [] => rfl
  | b :: l => by
    have ih := wdL_count c l
    rw [wdL]
    split
    · rename_i h
      rw [h, List.count_cons_self, List.length_cons, ih]
    · rename_i h
      rw [List.count_cons_of_ne h, ← ih]
      have h2 : (wdL c l).tail.length + 1 = (wdL c l).length := congrArg List.length (wdL_head c l)
      exact h2
theorem byte_split {c : UInt8} {l : List UInt8} {i : Nat} (h : Lib.indexByte l c = i) : i < l.length ∧ l = l.take i ++ c :: l.drop (i + 1) ∧ c ∉ l.take i := by
  obtain ⟨h1, h2⟩ := Lib.indexByte_some h
  have hlt : i < l.length := (List.getElem?_eq_some_iff.1 h1).1
  have he : l[i] = c := (List.getElem?_eq_some_iff.1 h1).2
  refine ⟨hlt, ?_, ?_⟩
  · conv => lhs; rw [← List.take_append_drop i l]
    rw [List.drop_eq_getElem_cons hlt, he]
  · intro hm
    obtain ⟨k, hk, hke⟩ := List.getElem_of_mem hm
    rw [List.length_take] at hk
    rw [List.getElem_take] at hke
    exact h2 k (by omega) (by rw [List.getElem?_eq_getElem (by omega), hke])
theorem byte_none {c : UInt8} {l : List UInt8} (h : Lib.indexByte l c = -1) : c ∉ l := by
  intro hm
  obtain ⟨k, hk, hke⟩ := List.getElem_of_mem hm
  exact Lib.indexByte_none h k (by rw [List.getElem?_eq_getElem hk, hke])
def wdS (c : UInt8) (s : ByteArray) : List ByteArray := (wdL c s.data.toList).map mkB
theorem wdS_len (c : UInt8) (s : ByteArray) : (wdS c s).length ≤ s.size + 1 := by
  unfold wdS
  rw [List.length_map]
  have := wdL_len c s.data.toList
  have h : s.data.toList.length = s.size := by simp
  omega
theorem wdS_ne (c : UInt8) (X : ByteArray) : wdS c X ≠ [] := by
  unfold wdS
  intro h
  exact wdL_ne c X.data.toList (List.map_eq_nil_iff.1 h)
theorem wdS_hit {c : UInt8} {X : ByteArray} {i : Nat} (h : Lib.indexByte X.data.toList c = i) : i < X.size ∧ wdS c X = X.extract 0 i :: wdS c (X.extract (i + 1) X.size) := by
  obtain ⟨h1, h2, h3⟩ := byte_split h
  have hs : X.data.toList.length = X.size := by simp
  refine ⟨by omega, ?_⟩
  unfold wdS
  rw [ext_drop, ← mkB_data (X.extract 0 i), ext_take]
  conv => lhs; rw [h2]
  rw [wdL_app c _ _ h3]
  rfl
theorem wdS_miss {c : UInt8} {X : ByteArray} (h : Lib.indexByte X.data.toList c = -1) : wdS c X = [X] := by
  unfold wdS
  rw [wdL_none c _ (byte_none h), List.map_singleton, mkB_data]
theorem splitB_wdS (c : UInt8) : ∀ (k : Nat) (s : ByteArray), (wdS c s).length ≤ k + 1 → Lib.splitB ⟨#[c]⟩ 0 k s = wdS c s
  | k, s, h => by
    have hix : Lib.indexB s ⟨#[c]⟩ = Lib.indexByte s.data.toList c := Lib.index_one _ _
    have hge := Lib.indexByte_ge s.data.toList c
    obtain ⟨j, hj⟩ : ∃ j, Lib.indexByte s.data.toList c = j := ⟨_, rfl⟩
    by_cases h0 : j < 0
    · have hm : Lib.indexByte s.data.toList c = -1 := by omega
      rw [Lib.splitB_miss _ _ _ _ (by rw [hix, hm]), wdS_miss hm]
    · obtain ⟨i, rfl⟩ := Int.eq_ofNat_of_zero_le (show 0 ≤ j by omega)
      obtain ⟨hiX, hhit⟩ := wdS_hit hj
      rw [hhit, List.length_cons] at h
      have hp : 0 < (wdS c (s.extract (i + 1) s.size)).length := List.length_pos_iff.2 (wdS_ne c _)
      cases k with
      | zero => omega
      | succ k =>
        rw [Lib.splitB_hit _ _ _ _ i (by rw [hix, hj]), splitB_wdS c k _ (by
          have e : (⟨#[c]⟩ : ByteArray).size = 1 := rfl
          rw [e]; omega), hhit]
        rfl
theorem wdS_count (c : UInt8) (s : ByteArray) : Lib.countB s ⟨#[c]⟩ + 1 = (wdS c s).length := by
  have h : Lib.countB s ⟨#[c]⟩ = s.data.toList.count c := Lib.count_one _ _
  unfold wdS
  rw [h, List.length_map, wdL_count]
end Sw
namespace Go.Proofs.YtjcbjocgachpjaaGreatDoor
open Go Go.RowKit
open Sw
set_option maxRecDepth 100000 in
set_option maxHeartbeats 1000000 in
theorem split_sp (w : World) (s : ByteArray) (hs : s.size ≤ 100000) :
    Calls Tryz.prog 97 #[.string s, .string ⟨#[32]⟩] w fun e w' => e = .returned (.slice (some ⟨w.heap.size, 0, none⟩) (wdS 32 s).length (wdS 32 s).length) ∧ w' = w.alloc (.cells ((wdS 32 s).map Value.string).toArray 9) := by
  have hc := wdS_count 32 s
  have hsp := splitB_wdS 32 (Lib.countB s ⟨#[32]⟩) s (by omega)
  have hle := wdS_len 32 s
  have cc := Any.strings_genSplit_core { Tryz.lays146 with } (by kernel_rfl) s ⟨#[32]⟩ 0 (-1) ((wdS 32 s).length) w (by omega) (by decide) (Nat.zero_le _)
    (fun x cc hx => (Tryz.strings_Index_one x 32 _).mono fun e w' h => ⟨by rw [h.1]; exact congrArg (fun z => Ending.returned (Value.int .i64 z)) (Lib.index_one _ _).symm, h.2⟩)
    ((Tryz.strings_Count_one s 32 w).mono fun e w' h => ⟨by rw [h.1]; exact congrArg (fun z : Nat => Ending.returned (Value.int .i64 (z : Int))) (Lib.count_one _ _).symm, h.2⟩)
    (by decide) (by decide) (by rw [if_pos (by decide)]; omega)
  rw [show (wdS 32 s).length - 1 = Lib.countB s ⟨#[32]⟩ by omega, hsp, Lib.cellsOf_full] at cc
  have HC := Lib.hid cc; clear cc hc hsp
  go_enter Tryz.func97, Tryz.ntmps97
  go_wp2_with fail
  refine HC.out.mono ?_
  rintro e w' ⟨rfl, rfl⟩
  go_wp2_with fail
  go_ret
  exact ⟨rfl, rfl⟩
end Go.Proofs.YtjcbjocgachpjaaGreatDoor
/- The contract of swingleref01.Same: are two slices of texts alike? -/
set_option linter.unusedVariables false
set_option linter.unusedSimpArgs false
namespace Go.Proofs.YtjcbjocgachpjaaGreatDoor
open Go.RowKit
open Sw
end Go.Proofs.YtjcbjocgachpjaaGreatDoor
/- tree.All. -/
set_option linter.unusedVariables false
set_option linter.unusedSimpArgs false
namespace Go.Proofs.YtjcbjocgachpjaaGreatDoor
open Go Go.RowKit
open Sw
set_option maxRecDepth 100000 in
theorem treeAll_any (w : World) (bt bm : Nat) (xs : List NE) (h : TreeAt w bt bm xs) :
    Calls Tryz.prog 46 #[.pointer (some ⟨bt, 0, none⟩)] w (SeqOfSN xs w) := by
  have HL := Lib.hid (srtAllSN_any w bm xs h.map)
  have c0 := h.box.cell 0
  simp at c0
  clear h
  go_enter Tryz.func46, Tryz.ntmps46
  go_wp2_with fail
  refine HL.out.mono ?_
  rintro e w1 ⟨gb, v, rfl, h1, h2, h3, h4, h5⟩
  have HF := Lib.hid (⟨gb, v, rfl, h1, h2, h3, h4, h5⟩ : SeqOfSN xs w (.returned (.func (.func 148) #[] #[.pointer (some ⟨gb, 0, none⟩)])) w1)
  clear h1 h2 h3 h4 h5 HL
  go_wp2_with fail
  go_ret
  exact HF.out
end Go.Proofs.YtjcbjocgachpjaaGreatDoor
/- tree.Bytes. -/
set_option linter.unusedVariables false
set_option linter.unusedSimpArgs false
namespace Go.Proofs.YtjcbjocgachpjaaGreatDoor
open Go Go.RowKit Go.Shelf
open Sw
attribute [local go_sem] Oper.semAt_some
/-- the bytes of the entries' data -/
def bytesT (xs : List NE) : Nat := (xs.map fun e => e.2.data.size).sum
def ByI (T M : Nat) (pre : List NE) (W : World) : Prop := Blk W T 3 #[.int .i64 (bytesT pre)] ∧ M ≤ W.heap.size
theorem ByI.own (T M : Nat) : Own (ByI T M) := fun _ A B row hs hg hr => ⟨blk_ownF hs.1 hg hr, Nat.le_trans hs.2 hg.size⟩
end Go.Proofs.YtjcbjocgachpjaaGreatDoor
/- append(out, l...): the source any slice that reads as a list, nil let in. Over any program. -/
set_option linter.unusedVariables false
set_option linter.unusedSimpArgs false
namespace Sw
open Go Go.RowKit
section
variable {P : Program}
end
end Sw
/- The reference's rows of items: Without. -/
set_option linter.unusedVariables false
set_option linter.unusedSimpArgs false
namespace Go.Proofs.YtjcbjocgachpjaaGreatDoor
open Go Go.RowKit
open Sw
/-- an item is appended to a row of items -/
theorem OwnIt.app {w' : World} {base g cap n : Nat} {l : List NE} {x : NE} (h : w'.ownsRow base 45 5 (.slice (some ⟨g, 0, none⟩) (n + 1) cap) (n + 1) (l.flatMap eCSN ++ [.string x.1, .int .i64 x.2.kind, .int .i64 x.2.mode, .int .u32 x.2.time, .string x.2.data])) (hn : l.length = n) : OwnIt w' base (.slice (some ⟨g, 0, none⟩) (n + 1) cap) (l ++ [x]) := by
  unfold OwnIt
  rw [List.length_append, List.length_singleton, hn, List.flatMap_append]
  simpa [eCSN] using h
end Go.Proofs.YtjcbjocgachpjaaGreatDoor
/- tree.Items. -/
set_option linter.unusedVariables false
set_option linter.unusedSimpArgs false
namespace Go.Proofs.YtjcbjocgachpjaaGreatDoor
open Go Go.RowKit Go.Shelf
open Sw
attribute [local go_sem] Oper.semAt_some
/-- behind some words: the row in the box holds them, and the iterator lies as it lay -/
def ItI (T gb : Nat) (v : Value) (xs : List NE) (pre : List NE) (W : World) : Prop := gb < W.heap.size ∧ (∃ o, Blk W T 22 #[o] ∧ OwnIt W T o pre) ∧ Blk W gb 125 #[v] ∧ Lies W 135 5 eCSN v xs
theorem ItI.own (T gb : Nat) (v : Value) (xs : List NE) : Own (ItI T gb v xs) := fun _ A B row hs hg hr => ⟨Nat.lt_of_lt_of_le hs.1 hg.size, by obtain ⟨o, h1, h2⟩ := hs.2.1; exact ⟨o, blk_ownF h1 hg hr, own_ownF h2 hg hr⟩, blk_ownF hs.2.2.1 hg hr, hs.2.2.2.ownF hg hr⟩
theorem ItI.below {T gb : Nat} {v : Value} {xs pre : List NE} {A B : World} (hs : ItI T gb v xs pre A) (hb : Below A.heap.size A B) : ItI T gb v xs pre B := ⟨Nat.lt_of_lt_of_le hs.1 hb.size, by obtain ⟨o, h1, h2⟩ := hs.2.1; exact ⟨o, h1.below hb h1.lt, h2.below hb⟩, hs.2.2.1.below hb hs.2.2.1.lt, hs.2.2.2.below hb⟩
end Go.Proofs.YtjcbjocgachpjaaGreatDoor
/- tree.Under$1: what Under leaves out. -/
set_option linter.unusedVariables false
set_option linter.unusedSimpArgs false
namespace Go.Proofs.YtjcbjocgachpjaaGreatDoor
open Go Go.RowKit
open Sw
/-- is an entry neither at a path nor under it? -/
def awayT (p : ByteArray) (x : NE) : Bool := !decide (x.1 = p) && !inS (upsS x.1) p
end Go.Proofs.YtjcbjocgachpjaaGreatDoor
/- slices.Clone of a row of api.Item: the same elements, in memory of the call's own. -/
set_option linter.unusedVariables false
set_option linter.unusedSimpArgs false
namespace Go.Proofs.YtjcbjocgachpjaaGreatDoor
open Go Go.RowKit
open Sw
end Go.Proofs.YtjcbjocgachpjaaGreatDoor
/- sorted.Map[string,swingle/api.Node]: what a map holds; find. -/
set_option linter.unusedVariables false
set_option linter.unusedSimpArgs false
namespace Go.Proofs.YtjcbjocgachpjaaGreatDoor
open Go Go.RowKit
open Sw
end Go.Proofs.YtjcbjocgachpjaaGreatDoor
/- slices.Reverse of a row of api.Item that the call owns. -/
set_option linter.unusedVariables false
set_option linter.unusedSimpArgs false
namespace Go.Proofs.YtjcbjocgachpjaaGreatDoor
open Go Go.RowKit
open Sw
end Go.Proofs.YtjcbjocgachpjaaGreatDoor
/- slices.Insert of one element into a row of api.Item that the call owns. -/
set_option linter.unusedVariables false
set_option linter.unusedSimpArgs false
namespace Go.Proofs.YtjcbjocgachpjaaGreatDoor
open Go Go.RowKit
open Sw
end Go.Proofs.YtjcbjocgachpjaaGreatDoor
/- slices.Delete of one element out of a row of api.Item that the call owns. -/
set_option linter.unusedVariables false
set_option linter.unusedSimpArgs false
namespace Go.Proofs.YtjcbjocgachpjaaGreatDoor
open Go Go.RowKit
open Sw
end Go.Proofs.YtjcbjocgachpjaaGreatDoor
/- slices.IndexFunc and slices.DeleteFunc of a row of api.Item that the call owns; the predicate is (*swingle/tree.Tree).Under$1. -/
set_option linter.unusedVariables false
set_option linter.unusedSimpArgs false
namespace Go.Proofs.YtjcbjocgachpjaaGreatDoor
open Go Go.RowKit
open Sw
end Go.Proofs.YtjcbjocgachpjaaGreatDoor
/- tree.Under. -/
set_option linter.unusedVariables false
set_option linter.unusedSimpArgs false
namespace Go.Proofs.YtjcbjocgachpjaaGreatDoor
open Go Go.RowKit
open Sw
/-- what stands at a path and under it -/
def undT (p : ByteArray) (xs : List NE) : List NE := xs.filter fun x => !awayT p x
end Go.Proofs.YtjcbjocgachpjaaGreatDoor
/- A tree's rows: what always holds of them, and what a path's clearing leaves; plain. -/
set_option linter.unusedVariables false
set_option linter.unusedSimpArgs false
namespace Sw
open Go
open Go.Proofs.YtjcbjocgachpjaaGreatDoor (partsS awayT undT)
/-- what holds of a tree's entries -/
structure TI (xs : List NE) : Prop where
  up : Up ordS xs
  paths : Paths xs
  nod : ∀ e ∈ xs, ¬ e.2.kind = 0 ∧ nodeR e.2 = 0
  par : ∀ e ∈ xs, ∀ u ∈ upsS e.1, ∃ d ∈ xs, d.1 = u ∧ d.2.kind = 2
theorem TI.nil : TI [] := ⟨List.Pairwise.nil, fun _ h => absurd h (by simp), fun _ h => absurd h (by simp), fun _ h => absurd h (by simp)⟩
theorem up_key {xs : List NE} (hu : Up ordS xs) {a b : NE} (ha : a ∈ xs) (hb : b ∈ xs) (h : a.1 = b.1) : a = b := by
  induction xs with
  | nil => cases ha
  | cons x xs ih =>
    have hself : ∀ y ∈ xs, ¬ y.1 = x.1 := fun y hy e => by
      have := hu.head y hy
      rw [e, ordS_refl] at this
      omega
    rcases List.mem_cons.1 ha with rfl | ha
    · rcases List.mem_cons.1 hb with rfl | hb
      · rfl
      · exact absurd h.symm (hself b hb)
    · rcases List.mem_cons.1 hb with hbx | hb
      · exact absurd (h.trans (by rw [hbx])) (hself _ ha)
      · exact ih hu.tail ha hb
theorem getT_in {xs : List NE} (hu : Up ordS xs) {e : NE} (h : e ∈ xs) : getT xs e.1 = e.2 := by
  unfold getT
  rw [get_find ordS_ord e.1 xs hu]
  cases hf : xs.find? (fun x => decide (ordS x.1 e.1 = 0)) with
  | none =>
    have := List.find?_eq_none.1 hf e h
    simp [ordS_refl] at this
  | some x =>
    have h0 : ordS x.1 e.1 = 0 := by have := List.find?_some hf; simpa using this
    rw [up_key hu (List.mem_of_find?_eq_some hf) h (ordS_zero h0)]
    rfl
theorem getT_out {xs : List NE} (hu : Up ordS xs) {p : ByteArray} (h : ∀ e ∈ xs, ¬ e.1 = p) : getT xs p = ndZ := by
  unfold getT
  rw [get_find ordS_ord p xs hu, List.find?_eq_none.2 (fun e he => by have := h e he; simp [ordS_ord.iff, this])]
  rfl
theorem getT_kind {xs : List NE} (hu : Up ordS xs) {p : ByteArray} (h : ¬ (getT xs p).kind = 0) : (p, getT xs p) ∈ xs := by
  rcases Classical.em (∃ e ∈ xs, e.1 = p) with ⟨e, he, rfl⟩ | hn
  · rw [getT_in hu he]; exact he
  · rw [getT_out hu (fun e he h => hn ⟨e, he, h⟩)] at h
    exact absurd rfl h
theorem put_iff {xs : List NE} (hu : Up ordS xs) (p : ByteArray) (n : Nd) (e : NE) : e ∈ putN ordS p n xs ↔ e = (p, n) ∨ (e ∈ xs ∧ ¬ e.1 = p) := by
  rw [put_filter ordS_ord p n xs hu]
  simp only [List.mem_append, List.mem_filter, List.mem_cons, decide_eq_true_eq]
  have h3 := ordS_three e.1 p
  constructor
  · rintro (⟨h, hk⟩ | rfl | ⟨h, hk⟩)
    · exact .inr ⟨h, fun e' => by rw [e', ordS_refl] at hk; omega⟩
    · exact .inl rfl
    · exact .inr ⟨h, fun e' => by rw [e', ordS_refl] at hk; omega⟩
  · rintro (rfl | ⟨h, hk⟩)
    · exact .inr (.inl rfl)
    · rcases h3 with h3 | h3 | h3
      · exact .inl ⟨h, by omega⟩
      · exact absurd (ordS_zero h3) hk
      · exact .inr (.inr ⟨h, by omega⟩)
/-- the ups of a path: its parent, and the parent's -/
theorem ups_parent {p u : ByteArray} (h : u ∈ upsS p) : ¬ parentS p = ⟨#[]⟩ ∧ parentS p ∈ upsS p ∧ (u = parentS p ∨ u ∈ upsS (parentS p)) := by
  rcases parent_last p with ⟨h0, _⟩ | ⟨hne, hl, hp⟩
  · rw [h0] at h; cases h
  · have hmem : parentS p ∈ upsS p := by rw [← hl]; exact List.getLast_mem hne
    refine ⟨hp, hmem, ?_⟩
    obtain ⟨k, hk1, hk2, hk3, hkr⟩ := ups_mem h
    obtain ⟨m, hm1, hm2, hm3, hmr⟩ := ups_mem hmem
    have hlen := upsS_len p
    have hm : partsS (parentS p) = (partsS p).take ((partsS p).length - 1) := by
      rw [← hl, List.getLast_eq_getElem]
      have hlt : (upsS p).length - 1 < (upsS p).length := by have := List.length_pos_iff.2 hne; omega
      have := ups_step p ((upsS p).length - 1) hlt
      rw [upsS_at p _ hlt]
      have hr : rightL p.data.toList = true := by
        cases hr : rightL p.data.toList with
        | true => rfl
        | false => rw [partsS_not hr] at hk2; simp at hk2
      rw [show (upsS p).length - 1 + 1 = (partsS p).length - 1 by have := List.length_pos_iff.2 hne; omega]
      rw [partsS_right hr] at hk2 ⊢
      have ht := right_take hr ((spS p).length - 1) (by omega)
      rw [partsS_right (by rw [data_mkB]; exact ht.1)]
      exact ht.2
    by_cases hkk : k = (partsS p).length - 1
    · left
      refine parts_inj (by rw [hk3, hm, hkk]) (by rw [hk3, List.length_take]; omega)
    · right
      refine ups_of (k := k) hk1 (by rw [hm, List.length_take]; omega) ?_
      rw [hk3, hm, List.take_take, Nat.min_eq_left (by omega)]
theorem ups_trans {u v p : ByteArray} (h1 : u ∈ upsS v) (h2 : v ∈ upsS p) : u ∈ upsS p := by
  obtain ⟨k, hk1, hk2, hk3, _⟩ := ups_mem h1
  obtain ⟨m, hm1, hm2, hm3, _⟩ := ups_mem h2
  rw [hm3, List.length_take] at hk2
  exact ups_of (k := k) hk1 (by omega) (by rw [hk3, hm3, List.take_take, Nat.min_eq_left (by omega)])
theorem ups_self {p : ByteArray} : ¬ p ∈ upsS p := fun h => by
  have := ups_order h
  rw [ordS_refl] at this
  omega
theorem away_iff (p : ByteArray) (e : NE) : awayT p e = true ↔ ¬ e.1 = p ∧ ¬ p ∈ upsS e.1 := by
  unfold Go.Proofs.YtjcbjocgachpjaaGreatDoor.awayT
  rw [Bool.and_eq_true, Bool.not_eq_true', Bool.not_eq_true', decide_eq_false_iff_not, ← inS_iff]
  simp
/-- nothing is under a path that holds says so of -/
theorem holds_not {xs : List NE} (hu : Up ordS xs) (hp : Paths xs) {p : ByteArray} (h : holdsT xs p = false) : ∀ e ∈ xs, ¬ p ∈ upsS e.1 := fun e he hq => by
  rw [holds_any xs p hu hp, List.any_eq_false] at h
  exact h e he ((inS_iff _ _).2 hq)
theorem holds_no {xs : List NE} (hu : Up ordS xs) (hp : Paths xs) {p : ByteArray} (h : ∀ e ∈ xs, ¬ p ∈ upsS e.1) : holdsT xs p = false := by
  rw [holds_any xs p hu hp, List.any_eq_false]
  exact fun e he hq => h e he ((inS_iff _ _).1 hq)
/-- what may's answer 0 says -/
theorem may_zero {xs : List NE} {p : ByteArray} {n : Nd} (h : mayT xs p n = 0) : rightL p.data.toList = true ∧ ¬ n.kind = 0 ∧ nodeR n = 0 ∧ parentT xs p = 0 ∧ (n.kind = 2 ∨ holdsT xs p = false) ∧ ((getT xs p).kind = 0 → xs.length < 500) := by
  unfold mayT at h
  cases hr : rightL p.data.toList with
  | false => rw [if_pos hr] at h; cases h
  | true =>
    rw [if_neg (by rw [hr]; simp)] at h
    by_cases h0 : n.kind = 0
    · rw [if_pos h0] at h; cases h
    · rw [if_neg h0] at h
      by_cases h1 : nodeR n = 0
      · rw [if_neg (by simpa using h1)] at h
        by_cases h2 : parentT xs p = 0
        · rw [if_neg (by simpa using h2)] at h
          by_cases h3 : ¬ n.kind = 2 ∧ holdsT xs p = true
          · rw [if_pos h3] at h; cases h
          · rw [if_neg h3] at h
            by_cases h4 : (getT xs p).kind = 0 ∧ 500 ≤ xs.length
            · rw [if_pos h4] at h; cases h
            · refine ⟨rfl, h0, h1, h2, ?_, fun hk => by have := fun hl => h4 ⟨hk, hl⟩; omega⟩
              rcases Classical.em (n.kind = 2) with hk | hk
              · exact .inl hk
              · right
                cases hh : holdsT xs p with
                | false => rfl
                | true => exact absurd ⟨hk, hh⟩ h3
        · rw [if_pos h2] at h; exact absurd h h2
      · rw [if_pos h1] at h; exact absurd h h1
theorem may_of {xs : List NE} {p : ByteArray} {n : Nd} (h1 : rightL p.data.toList = true) (h2 : ¬ n.kind = 0) (h3 : nodeR n = 0) (h4 : parentT xs p = 0) (h5 : n.kind = 2 ∨ holdsT xs p = false) (h6 : (getT xs p).kind = 0 → xs.length < 500) : mayT xs p n = 0 := by
  unfold mayT
  rw [if_neg (by rw [h1]; simp), if_neg h2, if_neg (by simpa using h3), if_neg (by simpa using h4), if_neg (by rcases h5 with h | h <;> simp [h]), if_neg (fun h => by have := h6 h.1; omega)]
theorem parentT_zero {xs : List NE} {p : ByteArray} (h : parentT xs p = 0) : parentS p = ⟨#[]⟩ ∨ (getT xs (parentS p)).kind = 2 := by
  unfold parentT at h
  by_cases h0 : parentS p = ⟨#[]⟩
  · exact .inl h0
  · rw [if_neg h0] at h
    by_cases h1 : (getT xs (parentS p)).kind = 0
    · rw [if_pos h1] at h; cases h
    · rw [if_neg h1] at h
      by_cases h2 : (getT xs (parentS p)).kind = 2
      · exact .inr h2
      · rw [if_neg h2] at h; cases h
theorem parentT_of {xs : List NE} {p : ByteArray} (h : parentS p = ⟨#[]⟩ ∨ (getT xs (parentS p)).kind = 2) : parentT xs p = 0 := by
  unfold parentT
  rcases h with h | h
  · rw [if_pos h]
  · by_cases h0 : parentS p = ⟨#[]⟩
    · rw [if_pos h0]
    · rw [if_neg h0, if_neg (by rw [h]; decide), if_pos h]
theorem TI.putN {xs : List NE} (h : TI xs) {p : ByteArray} {n : Nd} (hm : mayT xs p n = 0) : TI (putN ordS p n xs) := by
  obtain ⟨m1, m2, m3, m4, m5, _⟩ := may_zero hm
  refine ⟨put_up ordS_ord p n xs h.up, h.paths.put m1 n, fun e he => ?_, fun e he u hu => ?_⟩
  · rcases (put_iff h.up p n e).1 he with rfl | ⟨he, _⟩
    · exact ⟨m2, m3⟩
    · exact h.nod e he
  · rcases (put_iff h.up p n e).1 he with rfl | ⟨he, hep⟩
    · obtain ⟨hne, hmem, hor⟩ := ups_parent hu
      have hk : (getT xs (parentS p)).kind = 2 := (parentT_zero m4).resolve_left hne
      have hd := getT_kind h.up (p := parentS p) (by rw [hk]; decide)
      have hpp : ¬ parentS p = p := fun e => ups_self (p := p) (by rw [e] at hmem; exact hmem)
      rcases hor with rfl | hor
      · exact ⟨_, (put_iff h.up p n _).2 (.inr ⟨hd, hpp⟩), rfl, hk⟩
      · obtain ⟨d, hd1, rfl, hd3⟩ := h.par _ hd u hor
        exact ⟨d, (put_iff h.up p n _).2 (.inr ⟨hd1, fun e => ups_self (e ▸ hu : p ∈ upsS p)⟩), rfl, hd3⟩
    · obtain ⟨d, hd1, rfl, hd3⟩ := h.par e he u hu
      by_cases hdp : d.1 = p
      · rcases m5 with hk | hh
        · exact ⟨(p, n), (put_iff h.up p n _).2 (.inl rfl), hdp.symm, hk⟩
        · exact absurd (hdp ▸ hu) (holds_not h.up h.paths hh e he)
      · exact ⟨d, (put_iff h.up p n _).2 (.inr ⟨hd1, hdp⟩), rfl, hd3⟩
theorem TI.putT {xs : List NE} (h : TI xs) (p : ByteArray) (n : Nd) : TI (putT xs p n) := by
  unfold Sw.putT
  split
  · rename_i hm; exact h.putN hm
  · exact h
theorem Up.filter {xs : List NE} (h : Up ordS xs) (f : NE → Bool) : Up ordS (xs.filter f) := List.Pairwise.filter f h
theorem TI.away {xs : List NE} (h : TI xs) (p : ByteArray) : TI (xs.filter (awayT p)) := by
  refine ⟨h.up.filter _, fun e he => h.paths e (List.mem_filter.1 he).1, fun e he => h.nod e (List.mem_filter.1 he).1, fun e he u hu => ?_⟩
  obtain ⟨he, ha⟩ := List.mem_filter.1 he
  obtain ⟨h1, h2⟩ := (away_iff p e).1 ha
  obtain ⟨d, hd1, rfl, hd3⟩ := h.par e he u hu
  exact ⟨d, List.mem_filter.2 ⟨hd1, (away_iff p d).2 ⟨fun e' => h2 (e' ▸ hu), fun hq => h2 (ups_trans hq hu)⟩⟩, rfl, hd3⟩
theorem und_iff (p : ByteArray) (xs : List NE) (e : NE) : e ∈ undT p xs ↔ e ∈ xs ∧ (e.1 = p ∨ p ∈ upsS e.1) := by
  unfold Go.Proofs.YtjcbjocgachpjaaGreatDoor.undT
  rw [List.mem_filter, Bool.not_eq_true']
  constructor
  · rintro ⟨h1, h2⟩
    refine ⟨h1, ?_⟩
    rcases Classical.em (e.1 = p) with h | h
    · exact .inl h
    · right
      rcases Classical.em (p ∈ upsS e.1) with h' | h'
      · exact h'
      · rw [(away_iff p e).2 ⟨h, h'⟩] at h2; cases h2
  · rintro ⟨h1, h2⟩
    refine ⟨h1, ?_⟩
    cases ha : awayT p e with
    | false => rfl
    | true =>
      have := (away_iff p e).1 ha
      rcases h2 with h2 | h2
      · exact absurd h2 this.1
      · exact absurd h2 this.2
end Sw
/- Detecting, plainly: sets of paths, prints of marks. -/
set_option linter.unusedVariables false
set_option linter.unusedSimpArgs false
namespace Sw
open Go
abbrev MkE := ByteArray × Pr
abbrev SbE := ByteArray × Bool
/-- paths put into a set -/
def setP (X : List SbE) (ps : List ByteArray) : List SbE := ps.foldl (fun X p => putN ordS p true X) X
theorem setP_up : ∀ (ps : List ByteArray) (X : List SbE), Up ordS X → Up ordS (setP X ps)
  | [], _, h => h
  | p :: ps, X, h => setP_up ps _ (put_up ordS_ord p true X h)
theorem put_keys (p : ByteArray) (v : Bool) (X : List SbE) (h : Up ordS X) (q : ByteArray) : q ∈ (putN ordS p v X).map Prod.fst ↔ q = p ∨ q ∈ X.map Prod.fst := by
  rw [put_filter ordS_ord p v X h]
  simp only [List.map_append, List.mem_append, List.map_cons, List.mem_cons, List.mem_map, List.mem_filter, decide_eq_true_eq]
  constructor
  · rintro (⟨e, he, rfl⟩ | rfl | ⟨e, he, rfl⟩)
    · exact .inr ⟨e, he.1, rfl⟩
    · exact .inl rfl
    · exact .inr ⟨e, he.1, rfl⟩
  · rintro (rfl | ⟨e, he, rfl⟩)
    · exact .inr (.inl rfl)
    · by_cases h1 : ordS e.1 p < 0
      · exact .inl ⟨e, ⟨he, h1⟩, rfl⟩
      · by_cases h2 : ordS e.1 p = 0
        · exact .inr (.inl (ordS_ord.zero _ _ h2))
        · exact .inr (.inr ⟨e, ⟨he, by omega⟩, rfl⟩)
theorem setP_keys : ∀ (ps : List ByteArray) (X : List SbE), Up ordS X → ∀ q, q ∈ (setP X ps).map Prod.fst ↔ q ∈ ps ∨ q ∈ X.map Prod.fst
  | [], _, _, q => by simp [setP]
  | p :: ps, X, h, q => by
    have h1 := setP_keys ps _ (put_up ordS_ord p true X h) q
    have h2 := put_keys p true X h q
    show q ∈ (setP (putN ordS p true X) ps).map Prod.fst ↔ _
    rw [h1, h2, List.mem_cons]
    constructor
    · rintro (h | h | h)
      · exact .inl (.inr h)
      · exact .inl (.inl h)
      · exact .inr h
    · rintro ((h | h) | h)
      · exact .inr (.inl h)
      · exact .inl h
      · exact .inr (.inr h)
/-- paths that rise -/
def Rise (l : List ByteArray) : Prop := l.Pairwise fun a b => ordS a b < 0
theorem rise_keys {β : Type} {X : List (ByteArray × β)} (h : Up ordS X) : Rise (X.map Prod.fst) := by
  unfold Rise
  rw [List.pairwise_map]
  exact h
theorem rise_ext : ∀ {l m : List ByteArray}, Rise l → Rise m → (∀ q, q ∈ l ↔ q ∈ m) → l = m
  | [], [], _, _, _ => rfl
  | [], b :: m, _, _, h => absurd ((h b).2 (List.mem_cons_self ..)) (by simp)
  | a :: l, [], _, _, h => absurd ((h a).1 (List.mem_cons_self ..)) (by simp)
  | a :: l, b :: m, hl, hm, h => by
    have irr : ∀ x, ¬ ordS x x < 0 := fun x => by have := ordS_ord.self x; omega
    have ha := (List.pairwise_cons.1 hl).1
    have hb := (List.pairwise_cons.1 hm).1
    have hab : a = b := by
      rcases List.mem_cons.1 ((h a).1 (List.mem_cons_self ..)) with e | e
      · exact e
      · rcases List.mem_cons.1 ((h b).2 (List.mem_cons_self ..)) with e2 | e2
        · exact e2.symm
        · exact absurd (ordS_ord.trans _ _ _ (hb a e) (ha b e2)) (irr b)
    subst hab
    rw [rise_ext (List.pairwise_cons.1 hl).2 (List.pairwise_cons.1 hm).2 (fun q => ?_)]
    constructor
    · intro hq
      rcases List.mem_cons.1 ((h q).1 (List.mem_cons_of_mem _ hq)) with e | e
      · subst e; exact absurd (ha _ hq) (irr _)
      · exact e
    · intro hq
      rcases List.mem_cons.1 ((h q).2 (List.mem_cons_of_mem _ hq)) with e | e
      · subst e; exact absurd (hb _ hq) (irr _)
      · exact e
/-- the paths of a row of paths, each once, in order -/
def pathsS (ps : List ByteArray) : List ByteArray := (setP [] ps).map Prod.fst
theorem pathsS_rise (ps : List ByteArray) : Rise (pathsS ps) := rise_keys (setP_up ps [] List.Pairwise.nil)
theorem pathsS_mem (ps : List ByteArray) (q : ByteArray) : q ∈ pathsS ps ↔ q ∈ ps := by
  unfold pathsS
  rw [setP_keys ps [] List.Pairwise.nil]
  simp
/-- the first print at a path -/
def findM (L : List MkE) (p : ByteArray) : Option Pr := (L.find? fun m => decide (m.1 = p)).map Prod.snd
theorem findM_cons (m : MkE) (L : List MkE) (p : ByteArray) : findM (m :: L) p = if m.1 = p then some m.2 else findM L p := by
  unfold findM
  by_cases h : m.1 = p
  · rw [if_pos h, List.find?_cons_of_pos (by simpa using h)]; rfl
  · rw [if_neg h, List.find?_cons_of_neg (by simpa using h)]
/-- the marks of a tree's row -/
def marksT (xs : List NE) : List MkE := xs.map fun e => (e.1, printN e.2)
theorem findM_up : ∀ {L : List MkE}, Up ordS L → ∀ {m : MkE}, m ∈ L → findM L m.1 = some m.2
  | [], _, m, h => by cases h
  | a :: L, hu, m, h => by
    rw [findM_cons]
    rcases List.mem_cons.1 h with e | e
    · subst e; rw [if_pos rfl]
    · have h1 := hu.head m e
      have hne : ¬ a.1 = m.1 := fun e' => by rw [e'] at h1; have := ordS_ord.self m.1; omega
      rw [if_neg hne]
      exact findM_up hu.tail e
theorem marksT_up {xs : List NE} (h : Up ordS xs) : Up ordS (marksT xs) := by
  unfold marksT Up
  rw [List.pairwise_map]
  exact h
end Sw
/- Two stretches of a row exchanged: plain. -/
set_option linter.unusedVariables false
set_option linter.unusedSimpArgs false
namespace Sw
section
variable {β : Type}
end
end Sw

/- The parts of slices.SortStableFunc at rows of api.Mark: two stretches exchanged; a stretch turned about. -/
set_option linter.unusedVariables false
set_option linter.unusedSimpArgs false
namespace Go.Proofs.YtjcbjocgachpjaaGreatDoor
open Go Go.RowKit
open Sw
end Go.Proofs.YtjcbjocgachpjaaGreatDoor
/- slices.Concat of two rows of marks. -/
set_option linter.unusedVariables false
set_option linter.unusedSimpArgs false
namespace Go.Proofs.YtjcbjocgachpjaaGreatDoor
open Go Go.RowKit
open Sw
/-- a mark's cells -/
def eCM (m : ByteArray × Pr) : List Value := [.string m.1, .int .i64 m.2.kind, .int .i64 m.2.mode, .int .u32 m.2.time, .int .i64 m.2.size, .int .u32 m.2.sum]
theorem eCM_len (m : ByteArray × Pr) : (eCM m).length = 6 := rfl
theorem infoMk : (Tryz.prog.info? 61).map (fun i => (i.zero, i.size, i.bytes)) = some (some (.agg #[.string ⟨#[]⟩, .int .i64 0, .int .i64 0, .int .u32 0, .int .i64 0, .int .u32 0]), 6, 56) := by kernel_rfl
end Go.Proofs.YtjcbjocgachpjaaGreatDoor
