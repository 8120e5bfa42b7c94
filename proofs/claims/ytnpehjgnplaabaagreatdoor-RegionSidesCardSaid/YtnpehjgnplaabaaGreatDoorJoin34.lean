/- Several texts, joined for the limit of sixty files; each one opens with its own comment. -/
import Derived.Test.YtnpehjgnplaabaaGreatDoorJoin33
import Derived.Test.YtnpehjgnplaabaaGreatDoorJoin9
import Derived.Test.YtnpehjgnplaabaaGreatDoorJoin19
import Derived.Test.YtnpehjgnplaabaaGreatDoorJoin18
import Derived.Test.YtnpehjgnplaabaaGreatDoorJoin13
import Derived.Test.YtnpehjgnplaabaaGreatDoorJoin5
/- Several texts, joined for the limit of sixty files; each one opens with its own comment. -/
/- The reference's Right of nodes (at a node that is one). -/
set_option linter.unusedVariables false
set_option linter.unusedSimpArgs false
namespace Go.Proofs.YtnpehjgnplaabaaGreatDoor
open Go Go.RowKit
open Sw
end Go.Proofs.YtnpehjgnplaabaaGreatDoor
/- The reference's rows of items: Put. -/
set_option linter.unusedVariables false
set_option linter.unusedSimpArgs false
namespace Go.Proofs.YtnpehjgnplaabaaGreatDoor
open Go Go.RowKit
open Sw
end Go.Proofs.YtnpehjgnplaabaaGreatDoor
/- The reference's rows of items: Whole (at two rows that hold the same). -/
set_option linter.unusedVariables false
set_option linter.unusedSimpArgs false
namespace Go.Proofs.YtnpehjgnplaabaaGreatDoor
open Go Go.RowKit
open Sw
end Go.Proofs.YtnpehjgnplaabaaGreatDoor
/- tree.Clone; dirfs.emptied: what is at a path and under it goes. -/
set_option linter.unusedVariables false
set_option linter.unusedSimpArgs false
namespace Go.Proofs.YtnpehjgnplaabaaGreatDoor
open Go Go.RowKit
open Sw
end Go.Proofs.YtnpehjgnplaabaaGreatDoor
/- dirfs: a live directory, its step. -/
set_option linter.unusedVariables false
set_option linter.unusedSimpArgs false
namespace Sw
/-- a live directory's state -/
structure DS where
  room : Int
  fuse : Int
  ops : Int
  off : Bool
  xs : List NE
structure DS.Ok (s : DS) (k : Nat) : Prop where
  f0 : -1 ≤ s.fuse
  f1 : s.fuse ≤ 9223372036854775807
  o0 : 0 ≤ s.ops
  o1 : s.ops ≤ k
end Sw
namespace Go.Proofs.YtnpehjgnplaabaaGreatDoor
open Go Go.RowKit
open Sw
theorem _root_.Go.Proofs.YtnpehjgnplaabaaGreatDoor.TreeAt.far {W W' : World} {bt bm g : Nat} {xs : List NE} {t : TypeId} {cs : Array Value} (h : TreeAt W bt bm xs) (hB : Blk W g t cs) (h1 : 110 ≠ t) (h2 : 139 ≠ t) (h3 : 146 ≠ t) (hg : W.grownBy W' (some g)) : TreeAt W' bt bm xs := by
  obtain ⟨v, hb, ho⟩ := h.map.row
  refine ⟨h.box.grown hg (by simpa using Blk.other h.box hB h1), ⟨v, hb.grown hg (by simpa using Blk.other hb hB h2), ho.kept hg (.inr (own_ne_blk ho hB h3))⟩, h.map.up, h.map.ok⟩
end Go.Proofs.YtnpehjgnplaabaaGreatDoor
/- dirfs: fits, Put, Remove, Clear. -/
set_option linter.unusedVariables false
set_option linter.unusedSimpArgs false
namespace Sw
open Go.Proofs.YtnpehjgnplaabaaGreatDoor (bytesT)
end Sw
namespace Go.Proofs.YtnpehjgnplaabaaGreatDoor
open Go Go.RowKit
open Sw
end Go.Proofs.YtnpehjgnplaabaaGreatDoor
/- dirfs: Remove, Clear. -/
set_option linter.unusedVariables false
set_option linter.unusedSimpArgs false
namespace Sw
open Go.Proofs.YtnpehjgnplaabaaGreatDoor (awayT)
end Sw
namespace Go.Proofs.YtnpehjgnplaabaaGreatDoor
open Go Go.RowKit
open Sw
end Go.Proofs.YtnpehjgnplaabaaGreatDoor
/- dirfs: Graft. -/
set_option linter.unusedVariables false
set_option linter.unusedSimpArgs false
namespace Sw
open Go.Proofs.YtnpehjgnplaabaaGreatDoor (awayT)
/-- entries are put, one behind the other, until one may not be -/
def putsT : List NE → List NE → Int × List NE
  | ys, [] => (0, ys)
  | ys, x :: r => if mayT ys x.1 x.2 = 0 then putsT (putT ys x.1 x.2) r else (mayT ys x.1 x.2, ys)
theorem putsT_ti : ∀ (L : List NE) {ys : List NE}, TI ys → TI (putsT ys L).2
  | [], ys, h => h
  | x :: L, ys, h => by
    unfold putsT
    split
    · exact putsT_ti L (h.putT x.1 x.2)
    · exact h
end Sw
namespace Go.Proofs.YtnpehjgnplaabaaGreatDoor
open Go Go.RowKit
open Sw
end Go.Proofs.YtnpehjgnplaabaaGreatDoor
/- Several texts, joined for the limit of sixty files; each one opens with its own comment. -/
/- A path that is renamed: plain. -/
set_option linter.unusedVariables false
set_option linter.unusedSimpArgs false
namespace Sw
open Go
open Go.Proofs.YtnpehjgnplaabaaGreatDoor (partsS awayT undT)
theorem jnL_append : ∀ (a b : List (List UInt8)), a ≠ [] → b ≠ [] → jnL (a ++ b) = jnL a ++ 47 :: jnL b
  | [], _, h, _ => absurd rfl h
  | [x], b, _, hb => by
    rw [List.singleton_append, jnL_cons x b hb]
    rfl
  | x :: y :: a, b, _, hb => by
    rw [List.cons_append, jnL_cons x ((y :: a) ++ b) (by simp), jnL_append (y :: a) b (by simp) hb, jnL_cons x (y :: a) (by simp), List.append_assoc]
    rfl
theorem datL_spS (s : ByteArray) : datL (spS s) = spL s.data.toList := by
  unfold spS datL
  rw [List.map_map]
  conv => rhs; rw [← List.map_id (spL s.data.toList)]
  refine List.map_congr_left fun x _ => ?_
  exact data_mkB x
theorem spS_sl (s : ByteArray) : ∀ x ∈ datL (spS s), (47 : UInt8) ∉ x := by rw [datL_spS]; exact spL_no _
theorem datL_app (a b : List ByteArray) : datL (a ++ b) = datL a ++ datL b := by unfold datL; rw [List.map_append]
theorem datL_ne {l : List ByteArray} (h : l ≠ []) : datL l ≠ [] := by
  intro e
  exact h (List.map_eq_nil_iff.1 (show l.map _ = [] from e))
/-- the parts of a text of some bytes -/
theorem spS_of {s : ByteArray} {l : List ByteArray} (h : l ≠ []) (hn : ∀ x ∈ datL l, (47 : UInt8) ∉ x) (hs : s.data.toList = jnL (datL l)) : spS s = l := by
  have h1 : datL (spS s) = datL l := by rw [datL_spS, hs, spL_jnL _ (datL_ne h) hn]
  have hinj : ∀ a b : List ByteArray, datL a = datL b → a = b := by
    intro a
    induction a with
    | nil => intro b hb; cases b with
      | nil => rfl
      | cons y b => cases hb
    | cons x a ih => intro b hb; cases b with
      | nil => cases hb
      | cons y b =>
        have h0 := List.cons.inj (show x.data.toList :: datL a = y.data.toList :: datL b from hb)
        rw [dat_inj h0.1, ih b h0.2]
  exact hinj _ _ h1
/-- what is renamed of a path -/
def mvS (fr tt q : ByteArray) : ByteArray := if q = fr ∨ inS (upsS q) fr = true then tt ++ q.extract fr.size q.size else q
theorem mv_at {fr tt q : ByteArray} (h : q = fr ∨ fr ∈ upsS q) : mvS fr tt q = tt ++ q.extract fr.size q.size := by
  unfold mvS
  rw [if_pos (h.imp id (inS_iff _ _).2)]
theorem mv_away {fr tt q : ByteArray} (h : ¬ q = fr) (h2 : ¬ fr ∈ upsS q) : mvS fr tt q = q := by
  unfold mvS
  rw [if_neg (fun h' => h'.elim h (fun h3 => h2 ((inS_iff _ _).1 h3)))]
theorem right_of_ups {q u : ByteArray} (h : u ∈ upsS q) : rightL q.data.toList = true := by
  obtain ⟨k, h1, h2, _, _⟩ := ups_mem h
  cases hr : rightL q.data.toList with
  | true => rfl
  | false => rw [partsS_not hr] at h2; simp at h2
theorem ups_take {q u : ByteArray} (h : u ∈ upsS q) : (spS u).length < (spS q).length ∧ spS u = (spS q).take (spS u).length := by
  obtain ⟨k, h1, h2, h3, h4⟩ := ups_mem h
  have hr := right_of_ups h
  rw [partsS_right h4, partsS_right hr] at h3
  rw [partsS_right hr] at h2
  have hl : (spS u).length = k := by rw [h3, List.length_take]; omega
  exact ⟨by omega, by rw [hl]; exact h3⟩
theorem app_data (a b : ByteArray) : (a ++ b).data.toList = a.data.toList ++ b.data.toList := by simp
/-- the parts of a path that was renamed -/
theorem mv_parts {fr tt q : ByteArray} (h : q = fr ∨ fr ∈ upsS q) : spS (mvS fr tt q) = spS tt ++ (spS q).drop (spS fr).length := by
  rw [mv_at h]
  rcases h with rfl | h
  · have e : q.extract q.size q.size = ⟨#[]⟩ := dat_inj (by rw [ext_drop]; simp)
    rw [e, List.drop_length, List.append_nil]
    congr 1
    exact dat_inj (by rw [app_data]; simp)
  · obtain ⟨hlt, htk⟩ := ups_take h
    have hne : (spS q).drop (spS fr).length ≠ [] := fun e => by have := congrArg List.length e; simp at this; omega
    have hq : q.data.toList = fr.data.toList ++ 47 :: jnL (datL ((spS q).drop (spS fr).length)) := by
      have h1 : jnL (datL (spS q)) = q.data.toList := by rw [datL_spS, jnL_spL]
      have h2 : jnL (datL (spS fr)) = fr.data.toList := by rw [datL_spS, jnL_spL]
      rw [← h1, ← h2]
      conv => lhs; rw [← List.take_append_drop (spS fr).length (spS q)]
      rw [datL_app, ← htk, jnL_append _ _ (datL_ne (spS_ne fr)) (datL_ne hne)]
    refine spS_of (by simp [spS_ne]) (fun x hx => ?_) ?_
    · rw [datL_app] at hx
      rcases List.mem_append.1 hx with hx | hx
      · exact spS_sl tt x hx
      · refine spS_sl q x ?_
        obtain ⟨y, hy, rfl⟩ := List.mem_map.1 (show x ∈ ((spS q).drop (spS fr).length).map _ from hx)
        exact List.mem_map.2 ⟨y, List.mem_of_mem_drop hy, rfl⟩
    · rw [app_data, ext_drop, hq]
      have hfs : fr.size = fr.data.toList.length := by simp
      rw [hfs, List.drop_left, datL_app, jnL_append _ _ (datL_ne (spS_ne tt)) (datL_ne hne)]
      congr 1
      rw [datL_spS, jnL_spL]
theorem mv_self (fr tt : ByteArray) : mvS fr tt fr = tt := by
  rw [mv_at (.inl rfl)]
  have e : fr.extract fr.size fr.size = ⟨#[]⟩ := dat_inj (by rw [ext_drop]; simp)
  rw [e]
  exact dat_inj (by rw [app_data]; simp)
theorem spS_inj {a b : ByteArray} (h : spS a = spS b) : a = b := dat_inj (by
  rw [← jnL_spL a.data.toList, ← jnL_spL b.data.toList, ← datL_spS, ← datL_spS, h])
/-- the parts of what is at a path or under it -/
theorem at_take {fr q : ByteArray} (h : q = fr ∨ fr ∈ upsS q) : spS q = spS fr ++ (spS q).drop (spS fr).length := by
  rcases h with rfl | h
  · rw [List.drop_length, List.append_nil]
  · conv => lhs; rw [← List.take_append_drop (spS fr).length (spS q)]
    rw [← (ups_take h).2]
theorem mv_inj {fr tt q r : ByteArray} (hq : q = fr ∨ fr ∈ upsS q) (hr : r = fr ∨ fr ∈ upsS r) (h : mvS fr tt q = mvS fr tt r) : q = r := by
  have h1 := congrArg spS h
  rw [mv_parts hq, mv_parts hr, List.append_cancel_left_eq] at h1
  exact spS_inj (by rw [at_take hq, at_take hr, h1])
theorem ups_iff {u q : ByteArray} (hu : rightL u.data.toList = true) (hq : rightL q.data.toList = true) : u ∈ upsS q ↔ (spS u).length < (spS q).length ∧ spS u = (spS q).take (spS u).length := by
  refine ⟨ups_take, fun h => ?_⟩
  have h0 : 0 < (spS u).length := List.length_pos_iff.2 (spS_ne u)
  exact ups_of (k := (spS u).length) h0 (by rw [partsS_right hq]; exact h.1) (by rw [partsS_right hu, partsS_right hq]; exact h.2)
/-- renamed, a path is at the new place or under it -/
theorem mv_under {fr tt q : ByteArray} (h : q = fr ∨ fr ∈ upsS q) (ht : rightL tt.data.toList = true) (hm : rightL (mvS fr tt q).data.toList = true) : mvS fr tt q = tt ∨ tt ∈ upsS (mvS fr tt q) := by
  rcases h with rfl | h
  · exact .inl (mv_self _ _)
  · right
    rw [ups_iff ht hm, mv_parts (.inr h)]
    have := (ups_take h).1
    exact ⟨by simp; omega, by rw [List.take_left]⟩
theorem mv_ups {fr tt q r : ByteArray} (hq : q = fr ∨ fr ∈ upsS q) (hr : r = fr ∨ fr ∈ upsS r) (q1 : rightL q.data.toList = true) (r1 : rightL r.data.toList = true) (q2 : rightL (mvS fr tt q).data.toList = true) (r2 : rightL (mvS fr tt r).data.toList = true) :
    mvS fr tt q ∈ upsS (mvS fr tt r) ↔ q ∈ upsS r := by
  rw [ups_iff q2 r2, ups_iff q1 r1, mv_parts hq, mv_parts hr]
  have e1 := at_take hq
  have e2 := at_take hr
  generalize (spS q).drop (spS fr).length = a at *
  generalize (spS r).drop (spS fr).length = b at *
  rw [e1, e2]
  simp only [List.length_append]
  have key : ∀ X : List ByteArray, (X ++ b).take (X.length + a.length) = X ++ b.take a.length := fun X => by
    rw [List.take_append, List.take_of_length_le (by omega), show X.length + a.length - X.length = a.length by omega]
  rw [key, key, List.append_cancel_left_eq, List.append_cancel_left_eq]
  constructor
  · rintro ⟨h1, h2⟩; exact ⟨by omega, h2⟩
  · rintro ⟨h1, h2⟩; exact ⟨by omega, h2⟩
theorem parentS_sp {p : ByteArray} (h : rightL p.data.toList = true) : parentS p = mkB (jnL (datL (spS p).dropLast)) := by
  unfold parentS
  rw [partsS_right h]
theorem spS_parent {p : ByteArray} (h : rightL p.data.toList = true) (h2 : 2 ≤ (spS p).length) : spS (parentS p) = (spS p).dropLast := by
  rw [parentS_sp h]
  refine spS_of (fun e => by have := congrArg List.length e; simp at this; omega) (fun x hx => ?_) (by rw [data_mkB])
  obtain ⟨y, hy, rfl⟩ := List.mem_map.1 (show x ∈ ((spS p).dropLast).map _ from hx)
  exact spS_sl p _ (List.mem_map.2 ⟨y, List.dropLast_subset _ hy, rfl⟩)
/-- the parent of a path that was renamed -/
theorem mv_parent {fr tt q : ByteArray} (h : fr ∈ upsS q) (hm : rightL (mvS fr tt q).data.toList = true) : parentS (mvS fr tt q) = mvS fr tt (parentS q) ∧ (parentS q = fr ∨ fr ∈ upsS (parentS q)) := by
  obtain ⟨_, hpq, hor⟩ := ups_parent h
  have hor' : parentS q = fr ∨ fr ∈ upsS (parentS q) := hor.imp Eq.symm id
  refine ⟨?_, hor'⟩
  have hr := right_of_ups h
  have hl := (ups_take h).1
  have h0 : 0 < (spS fr).length := List.length_pos_iff.2 (spS_ne fr)
  have ht0 : 0 < (spS tt).length := List.length_pos_iff.2 (spS_ne tt)
  have hp2 : 2 ≤ (spS (mvS fr tt q)).length := by rw [mv_parts (.inr h)]; simp; omega
  refine spS_inj ?_
  rw [spS_parent hm hp2, mv_parts hor', spS_parent hr (by omega), mv_parts (.inr h)]
  rw [List.dropLast_append_of_ne_nil (fun e => by have := congrArg List.length e; simp at this; omega)]
  congr 1
  rw [List.dropLast_eq_take, List.dropLast_eq_take, List.length_drop, List.drop_take]
  congr 1
  omega
end Sw
/- Renaming in a tree: plain. -/
set_option linter.unusedVariables false
set_option linter.unusedSimpArgs false
namespace Sw
open Go
open Go.Proofs.YtnpehjgnplaabaaGreatDoor (partsS awayT undT)
/-- an entry is put, whatever is said -/
abbrev putE (m : List NE) (e : NE) : List NE := putN ordS e.1 e.2 m
abbrev putO (m : List NE) (e : NE) : List NE := putT m e.1 e.2
theorem putAll_iff : ∀ (L base : List NE), Up ordS base → Unlike L → Up ordS (L.foldl putE base) ∧ ∀ e, e ∈ L.foldl putE base ↔ e ∈ L ∨ (e ∈ base ∧ ∀ r ∈ L, ¬ r.1 = e.1)
  | [], base, hu, _ => ⟨hu, fun e => by simp⟩
  | x :: L, base, hu, hl => by
    obtain ⟨hx, hl'⟩ := List.pairwise_cons.1 hl
    obtain ⟨h1, h2⟩ := putAll_iff L (putN ordS x.1 x.2 base) (put_up ordS_ord x.1 x.2 base hu) hl'
    refine ⟨h1, fun e => ?_⟩
    rw [List.foldl_cons, h2 e, put_iff hu]
    constructor
    · rintro (h | ⟨h | ⟨h, h'⟩, h3⟩)
      · exact .inl (List.mem_cons_of_mem _ h)
      · exact .inl (by rw [h]; exact List.mem_cons_self ..)
      · refine .inr ⟨h, fun r hr => ?_⟩
        rcases List.mem_cons.1 hr with rfl | hr
        · exact fun e' => h' e'.symm
        · exact h3 r hr
    · rintro (h | ⟨h, h3⟩)
      · rcases List.mem_cons.1 h with rfl | h
        · exact .inr ⟨.inl rfl, fun r hr e' => hx r hr e'.symm⟩
        · exact .inl h
      · exact .inr ⟨.inr ⟨h, fun e' => h3 x (List.mem_cons_self ..) e'.symm⟩, fun r hr => h3 r (List.mem_cons_of_mem _ hr)⟩
theorem putAll_fold : ∀ (L base : List NE), (∀ k (h : k < L.length), mayT ((L.take k).foldl putE base) L[k].1 L[k].2 = 0) → L.foldl putO base = L.foldl putE base
  | [], base, _ => rfl
  | x :: L, base, h => by
    have h0 : mayT base x.1 x.2 = 0 := h 0 (by simp)
    rw [List.foldl_cons, List.foldl_cons]
    have e : putO base x = putE base x := by show putT base x.1 x.2 = _; unfold putT; rw [if_pos h0]
    rw [e]
    exact putAll_fold L _ fun k hk => h (k + 1) (by simp; omega)
theorem putAll_ti : ∀ (L base : List NE), TI base → (∀ k (h : k < L.length), mayT ((L.take k).foldl putE base) L[k].1 L[k].2 = 0) → TI (L.foldl putE base)
  | [], base, h0, _ => h0
  | x :: L, base, h0, h => putAll_ti L _ (h0.putN (h 0 (by simp))) fun k hk => h (k + 1) (by simp; omega)
theorem filter_parts {α : Type} (f : α → Bool) : ∀ l : List α, (l.filter f).length + (l.filter fun x => !f x).length = l.length
  | [] => rfl
  | x :: l => by
    have := filter_parts f l
    cases h : f x <;> simp [h] <;> omega
theorem mem_before {U : List NE} (hu : Up ordS U) {d : NE} (hd : d ∈ U) (k : Nat) (hk : k < U.length) (h : ordS d.1 U[k].1 = -1) : d ∈ U.take k := by
  have hs := hd
  rw [← List.take_append_drop k U] at hs
  rcases List.mem_append.1 hs with h1 | h1
  · exact h1
  · rw [List.drop_eq_getElem_cons hk] at h1
    have hu2 : Up ordS (U[k] :: U.drop (k + 1)) := by
      rw [← List.drop_eq_getElem_cons hk]
      exact (List.pairwise_append.1 (by rw [List.take_append_drop]; exact hu : Up ordS (U.take k ++ U.drop k))).2.1
    rcases List.mem_cons.1 h1 with h1 | h1
    · rw [h1, ordS_refl] at h; omega
    · have h2 := hu2.head d h1
      have h3 := ordS_neg U[k].1 d.1
      omega
/-- an entry that is renamed -/
def mvE (fr tt : ByteArray) (e : NE) : NE := (mvS fr tt e.1, e.2)
/-- what is so where a path may be renamed -/
structure Ren (xs : List NE) (fr tt : ByteArray) : Prop where
  ti : TI xs
  len : xs.length ≤ 500
  rt : rightL tt.data.toList = true
  had : ∃ n, (fr, n) ∈ xs
  ne : ¬ fr = tt
  nu : ¬ fr ∈ upsS tt
  no : ∀ e ∈ xs, ¬ e.1 = tt
  par : parentS tt = ⟨#[]⟩ ∨ (getT xs (parentS tt)).kind = 2
  all : ∀ e ∈ undT fr xs, rightL (mvS fr tt e.1).data.toList = true
def renT (xs : List NE) (fr tt : ByteArray) : List NE := ((undT fr xs).map (mvE fr tt)).foldl putE (xs.filter (awayT fr))
section
variable {xs : List NE} {fr tt : ByteArray}
theorem Ren.under (h : Ren xs fr tt) {e : NE} (he : e ∈ xs) : ¬ (e.1 = tt ∨ tt ∈ upsS e.1) := fun hh => by
  rcases hh with hh | hh
  · exact h.no e he hh
  · obtain ⟨d, hd, h1, _⟩ := h.ti.par e he tt hh
    exact h.no d hd h1
theorem Ren.upU (h : Ren xs fr tt) : Up ordS (undT fr xs) := h.ti.up.filter _
theorem Ren.unlike (h : Ren xs fr tt) : Unlike ((undT fr xs).map (mvE fr tt)) := by
  refine List.pairwise_map.2 (List.Pairwise.imp_of_mem (fun {a b} ha hb hab => ?_) h.upU)
  intro e
  have := mv_inj ((und_iff fr xs a).1 ha).2 ((und_iff fr xs b).1 hb).2 e
  rw [this, ordS_refl] at hab
  omega
/-- what stayed has no key of what came -/
theorem Ren.apart (h : Ren xs fr tt) {x r : NE} (hx : x ∈ xs) (hr : r ∈ (undT fr xs).map (mvE fr tt)) : ¬ r.1 = x.1 := fun e => by
  obtain ⟨a, ha, rfl⟩ := List.mem_map.1 hr
  refine h.under hx ?_
  rw [← e]
  exact mv_under ((und_iff fr xs a).1 ha).2 h.rt (h.all a ha)
theorem Ren.state (h : Ren xs fr tt) (k : Nat) : Up ordS ((((undT fr xs).map (mvE fr tt)).take k).foldl putE (xs.filter (awayT fr))) ∧ ∀ e, e ∈ (((undT fr xs).map (mvE fr tt)).take k).foldl putE (xs.filter (awayT fr)) ↔ (∃ a ∈ (undT fr xs).take k, e = mvE fr tt a) ∨ e ∈ xs.filter (awayT fr) := by
  obtain ⟨h1, h2⟩ := putAll_iff (((undT fr xs).map (mvE fr tt)).take k) (xs.filter (awayT fr)) (h.ti.up.filter _) (List.Pairwise.sublist (List.take_sublist _ _) h.unlike)
  refine ⟨h1, fun e => ?_⟩
  rw [h2 e, ← List.map_take]
  constructor
  · rintro (h | ⟨h, _⟩)
    · obtain ⟨a, ha, rfl⟩ := List.mem_map.1 h; exact .inl ⟨a, ha, rfl⟩
    · exact .inr h
  · rintro (⟨a, ha, rfl⟩ | h')
    · exact .inl (List.mem_map.2 ⟨a, ha, rfl⟩)
    · refine .inr ⟨h', fun r hr => h.apart (List.mem_filter.1 h').1 ?_⟩
      obtain ⟨a, ha, rfl⟩ := List.mem_map.1 hr
      exact List.mem_map.2 ⟨a, List.mem_of_mem_take ha, rfl⟩
theorem Ren.may (h : Ren xs fr tt) (k : Nat) (hk : k < (undT fr xs).length) : mayT ((((undT fr xs).map (mvE fr tt)).take k).foldl putE (xs.filter (awayT fr))) (mvS fr tt (undT fr xs)[k].1) (undT fr xs)[k].2 = 0 := by
  obtain ⟨hS1, hS2⟩ := h.state k
  have hlen : ((((undT fr xs).map (mvE fr tt)).take k).foldl putE (xs.filter (awayT fr))).length ≤ (xs.filter (awayT fr)).length + k := by
    refine Nat.le_trans (putL_le (c := ordS) (((undT fr xs).map (mvE fr tt)).take k) (xs.filter (awayT fr))) ?_
    rw [List.length_take]
    omega
  have hpart : (xs.filter (awayT fr)).length + (undT fr xs).length = xs.length := filter_parts (awayT fr) xs
  have hx500 := h.len
  obtain ⟨S, hS⟩ : ∃ S, (((undT fr xs).map (mvE fr tt)).take k).foldl putE (xs.filter (awayT fr)) = S := ⟨_, rfl⟩
  rw [hS] at hS1 hS2 hlen
  rw [hS]
  obtain ⟨e, he⟩ : ∃ e, (undT fr xs)[k] = e := ⟨_, rfl⟩
  rw [he]
  have heU : e ∈ undT fr xs := by rw [← he]; exact List.getElem_mem hk
  obtain ⟨hex, hat⟩ := (und_iff fr xs e).1 heU
  have hq2 := h.all e heU
  have hnod := h.ti.nod e hex
  have hpS : Paths S := fun x hx => by
    rcases (hS2 x).1 hx with ⟨a, ha, rfl⟩ | hx
    · exact h.all a (List.mem_of_mem_take ha)
    · exact h.ti.paths x (List.mem_filter.1 hx).1
  refine may_of hq2 hnod.1 hnod.2 (parentT_of ?_) ?_ (fun _ => by omega)
  · rcases hat with hfe | hfe
    · rw [hfe, mv_self]
      rcases h.par with hp | hp
      · exact .inl hp
      · right
        have hd := getT_kind h.ti.up (p := parentS tt) (by rw [hp]; decide)
        have hup : ¬ parentS tt = ⟨#[]⟩ := fun e0 => by
          have := h.ti.paths _ hd
          have h0 : rightL (parentS tt).data.toList = true := this
          rw [e0] at h0
          exact absurd h0 (by decide)
        obtain ⟨_, hpm⟩ : upsS tt ≠ [] ∧ parentS tt ∈ upsS tt := by
          rcases parent_last tt with ⟨_, h0⟩ | ⟨hne, hl, _⟩
          · exact absurd h0 hup
          · exact ⟨hne, by rw [← hl]; exact List.getLast_mem hne⟩
        have hdS : (parentS tt, getT xs (parentS tt)) ∈ S := (hS2 _).2 (.inr (List.mem_filter.2 ⟨hd, (away_iff fr _).2 ⟨fun e0 => h.nu (e0 ▸ hpm), fun e0 => h.nu (ups_trans e0 hpm)⟩⟩))
        have := getT_in hS1 hdS
        rw [this]
        exact hp
    · right
      obtain ⟨hp1, hp2⟩ := mv_parent hfe hq2
      obtain ⟨_, hpm, _⟩ := ups_parent hfe
      obtain ⟨d, hd1, hd2, hd3⟩ := h.ti.par e hex _ hpm
      have hdU : d ∈ undT fr xs := (und_iff fr xs d).2 ⟨hd1, by rw [hd2]; exact hp2⟩
      have hdk : d ∈ (undT fr xs).take k := mem_before h.upU hdU k hk (by rw [he, hd2]; exact ups_order hpm)
      have hdS : mvE fr tt d ∈ S := (hS2 _).2 (.inl ⟨d, hdk, rfl⟩)
      have := getT_in hS1 hdS
      rw [hp1, ← hd2]
      have e2 : (mvE fr tt d).1 = mvS fr tt d.1 := rfl
      rw [e2] at this
      rw [this]
      exact hd3
  · rcases Classical.em (e.2.kind = 2) with hk2 | hk2
    · exact .inl hk2
    · right
      refine holds_no hS1 hpS fun x hx hq => ?_
      rcases (hS2 x).1 hx with ⟨a, ha, rfl⟩ | hx
      · have haU := List.mem_of_mem_take ha
        obtain ⟨hax, haa⟩ := (und_iff fr xs a).1 haU
        have := (mv_ups hat haa (h.ti.paths e hex) (h.ti.paths a hax) hq2 (h.all a haU)).1 hq
        obtain ⟨d, hd1, hd2, hd3⟩ := h.ti.par a hax e.1 this
        rw [up_key h.ti.up hd1 hex hd2] at hd3
        exact hk2 hd3
      · refine h.under (List.mem_filter.1 hx).1 (.inr ?_)
        rcases mv_under hat h.rt hq2 with h' | h'
        · rw [← h']; exact hq
        · exact ups_trans h' hq
/-- the tree's puts do what is wanted -/
theorem Ren.puts (h : Ren xs fr tt) : ((undT fr xs).map (mvE fr tt)).foldl putO (xs.filter (awayT fr)) = renT xs fr tt ∧ TI (renT xs fr tt) := by
  have hm : ∀ k (hk : k < ((undT fr xs).map (mvE fr tt)).length), mayT ((((undT fr xs).map (mvE fr tt)).take k).foldl putE (xs.filter (awayT fr))) ((undT fr xs).map (mvE fr tt))[k].1 ((undT fr xs).map (mvE fr tt))[k].2 = 0 := fun k hk => by
    rw [List.getElem_map]
    exact h.may k (by simpa using hk)
  exact ⟨putAll_fold _ _ hm, putAll_ti _ _ (h.ti.away fr) hm⟩
theorem Ren.mem (h : Ren xs fr tt) (e : NE) : e ∈ renT xs fr tt ↔ (∃ a ∈ undT fr xs, e = mvE fr tt a) ∨ e ∈ xs.filter (awayT fr) := by
  have := (h.state (undT fr xs).length).2 e
  rw [List.take_of_length_le (by simp), List.take_of_length_le (Nat.le_refl _)] at this
  exact this
theorem Ren.mem2 (h : Ren xs fr tt) (e : NE) : e ∈ renT xs fr tt ↔ e ∈ xs.map (mvE fr tt) := by
  rw [h.mem e, List.mem_map]
  constructor
  · rintro (⟨a, ha, rfl⟩ | hx)
    · exact ⟨a, ((und_iff fr xs a).1 ha).1, rfl⟩
    · obtain ⟨h1, h2⟩ := List.mem_filter.1 hx
      obtain ⟨h3, h4⟩ := (away_iff fr e).1 h2
      exact ⟨e, h1, by unfold mvE; rw [mv_away h3 h4]⟩
  · rintro ⟨a, ha, rfl⟩
    cases hw : awayT fr a with
    | true =>
      obtain ⟨h3, h4⟩ := (away_iff fr a).1 hw
      right
      have : mvE fr tt a = a := by unfold mvE; rw [mv_away h3 h4]
      rw [this]
      exact List.mem_filter.2 ⟨ha, hw⟩
    | false => exact .inl ⟨a, List.mem_filter.2 ⟨ha, by rw [hw]; rfl⟩, rfl⟩
theorem Ren.at (h : Ren xs fr tt) {a : NE} (ha : a ∈ xs) : (a.1 = fr ∨ fr ∈ upsS a.1) ∨ (mvS fr tt a.1 = a.1) := by
  rcases Classical.em (a.1 = fr ∨ fr ∈ upsS a.1) with h' | h'
  · exact .inl h'
  · exact .inr (mv_away (fun e => h' (.inl e)) (fun e => h' (.inr e)))
theorem Ren.inj (h : Ren xs fr tt) {a b : NE} (ha : a ∈ xs) (hb : b ∈ xs) (e : mvS fr tt a.1 = mvS fr tt b.1) : a.1 = b.1 := by
  have hall : ∀ c ∈ xs, (c.1 = fr ∨ fr ∈ upsS c.1) → mvS fr tt c.1 = tt ∨ tt ∈ upsS (mvS fr tt c.1) := fun c hc hat => mv_under hat h.rt (h.all c ((und_iff fr xs c).2 ⟨hc, hat⟩))
  rcases h.at ha with ha' | ha' <;> rcases h.at hb with hb' | hb'
  · exact mv_inj ha' hb' e
  · have := hall a ha ha'
    rw [e, hb'] at this
    exact absurd this (h.under hb)
  · have := hall b hb hb'
    rw [← e, ha'] at this
    exact absurd this (h.under ha)
  · rw [ha', hb'] at e
    exact e
theorem Ren.unlikeAll (h : Ren xs fr tt) : Unlike (xs.map (mvE fr tt)) := by
  refine List.pairwise_map.2 (List.Pairwise.imp_of_mem (fun {a b} ha hb hab => ?_) h.ti.up)
  intro e
  have := h.inj ha hb e
  rw [this, ordS_refl] at hab
  omega
/-- the reference's row is the tree's -/
theorem Ren.ref (h : Ren xs fr tt) : putL ordS (xs.map (mvE fr tt)) = renT xs fr tt := by
  obtain ⟨h1, h2, _⟩ := putL_all ordS_ord _ (xs.map (mvE fr tt)) rfl h.unlikeAll
  refine up_ext ordS_ord _ _ h1 h.puts.2.up fun e => ?_
  rw [h2 e, h.mem2 e]
theorem Ren.length (h : Ren xs fr tt) : (renT xs fr tt).length = xs.length := by
  rw [← h.ref, (putL_all ordS_ord _ (xs.map (mvE fr tt)) rfl h.unlikeAll).2.2, List.length_map]
end
end Sw
