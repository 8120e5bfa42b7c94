/- Several texts, joined for the limit of sixty files; each one opens with its own comment. -/
import Derived.Test.YtihiakkeloejlaaGreatDoorJoin17
import Derived.Deep.RegionLaw
import Derived.Test.YtihiakkeloejlaaGreatDoorJoin14
import Derived.Test.YtihiakkeloejlaaGreatDoorJoin5
import Derived.Test.YtihiakkeloejlaaGreatDoorJoin15
/- slices.Insert of one element into a row of api.Item that the call owns. -/
set_option linter.unusedVariables false
set_option linter.unusedSimpArgs false
namespace Go.Proofs.YtihiakkeloejlaaGreatDoor
open Go Go.RowKit
open Sw
/-- behind the call: a row with one more element -/
def InsPostIT (base n : Nat) (xs : List Value) (row : Option Nat) (w : World) (e : Ending) (w' : World) : Prop :=
  ∃ g cap, e = .returned (.slice (some ⟨g, 0, none⟩) (n + 1) cap) ∧ w'.ownsRow base 56 5 (.slice (some ⟨g, 0, none⟩) (n + 1) cap) (n + 1) xs ∧ w.grownBy w' row ∧ (row = some g ∨ w.heap.size ≤ g)
end Go.Proofs.YtihiakkeloejlaaGreatDoor
/- slices.Delete of one element out of a row of api.Item that the call owns. -/
set_option linter.unusedVariables false
set_option linter.unusedSimpArgs false
namespace Go.Proofs.YtihiakkeloejlaaGreatDoor
open Go Go.RowKit
open Sw
/-- behind the call: a row with one element less -/
def DelPostIT (base n : Nat) (xs : List Value) (row : Option Nat) (w : World) (e : Ending) (w' : World) : Prop :=
  ∃ v, e = .returned v ∧ w'.ownsRow base 56 5 v n xs ∧ w.grownBy w' row ∧ v.ownBlock = row
end Go.Proofs.YtihiakkeloejlaaGreatDoor
/- slices.IndexFunc and slices.DeleteFunc of a row of api.Item that the call owns; the predicate is (*swingle/tree.Tree).Under$1. -/
set_option linter.unusedVariables false
set_option linter.unusedSimpArgs false
namespace Go.Proofs.YtihiakkeloejlaaGreatDoor
open Go Go.RowKit
open Sw
def IdxPostIT {α : Type} (p : α → Bool) (l : List α) (w : World) (e : Ending) (w' : World) : Prop :=
  ((∃ i : Nat, ∃ h : i < l.length, (∀ m (h : m < l.length), m < i → p l[m] = false) ∧ p l[i] = true ∧ e = .returned (.int .i64 i)) ∨ ((∀ x ∈ l, p x = false) ∧ e = .returned (.int .i64 (-1)))) ∧ Below w.heap.size w w'
/-- behind the call: the row of those that stay -/
def DelFPostIT (base : Nat) (l : List (ByteArray × Nd)) (row : Option Nat) (w : World) (e : Ending) (w' : World) : Prop :=
  ∃ v, e = .returned v ∧ w'.ownsRow base 56 5 v l.length (l.flatMap eCIT) ∧ w.grownBy w' row ∧ v.ownBlock = row
end Go.Proofs.YtihiakkeloejlaaGreatDoor
/- tree.Under. -/
set_option linter.unusedVariables false
set_option linter.unusedSimpArgs false
namespace Go.Proofs.YtihiakkeloejlaaGreatDoor
open Go Go.RowKit
open Sw
/-- what stands at a path and under it -/
def undT (p : ByteArray) (xs : List NE) : List NE := xs.filter fun x => !awayT p x
end Go.Proofs.YtihiakkeloejlaaGreatDoor
/- A tree's rows: what always holds of them, and what a path's clearing leaves; plain. -/
set_option linter.unusedVariables false
set_option linter.unusedSimpArgs false
namespace Sw
open Go
open Go.Proofs.YtihiakkeloejlaaGreatDoor (partsS awayT undT)
/-- what holds of a tree's entries -/
structure TI (xs : List NE) : Prop where
  up : Up ordS xs
  paths : Paths xs
  nod : ∀ e ∈ xs, ¬ e.2.kind = 0 ∧ nodeR e.2 = 0
  par : ∀ e ∈ xs, ∀ u ∈ upsS e.1, ∃ d ∈ xs, d.1 = u ∧ d.2.kind = 2
theorem TI.nil : TI [] := ⟨List.Pairwise.nil, fun _ h => absurd h (by simp), fun _ h => absurd h (by simp), fun _ h => absurd h (by simp)⟩
theorem up_key {xs : List NE} (hu : Up ordS xs) {a b : NE} (ha : a ∈ xs) (hb : b ∈ xs) (h : a.1 = b.1) : a = b := by
  induction xs with
  | nil => cases ha
  | cons x xs ih =>
    have hself : ∀ y ∈ xs, ¬ y.1 = x.1 := fun y hy e => by
      have := hu.head y hy
      rw [e, ordS_refl] at this
      omega
    rcases List.mem_cons.1 ha with rfl | ha
    · rcases List.mem_cons.1 hb with rfl | hb
      · rfl
      · exact absurd h.symm (hself b hb)
    · rcases List.mem_cons.1 hb with hbx | hb
      · exact absurd (h.trans (by rw [hbx])) (hself _ ha)
      · exact ih hu.tail ha hb
theorem getT_in {xs : List NE} (hu : Up ordS xs) {e : NE} (h : e ∈ xs) : getT xs e.1 = e.2 := by
  unfold getT
  rw [get_find ordS_ord e.1 xs hu]
  cases hf : xs.find? (fun x => decide (ordS x.1 e.1 = 0)) with
  | none =>
    have := List.find?_eq_none.1 hf e h
    simp [ordS_refl] at this
  | some x =>
    have h0 : ordS x.1 e.1 = 0 := by have := List.find?_some hf; simpa using this
    rw [up_key hu (List.mem_of_find?_eq_some hf) h (ordS_zero h0)]
    rfl
theorem getT_out {xs : List NE} (hu : Up ordS xs) {p : ByteArray} (h : ∀ e ∈ xs, ¬ e.1 = p) : getT xs p = ndZ := by
  unfold getT
  rw [get_find ordS_ord p xs hu, List.find?_eq_none.2 (fun e he => by have := h e he; simp [ordS_ord.iff, this])]
  rfl
theorem getT_kind {xs : List NE} (hu : Up ordS xs) {p : ByteArray} (h : ¬ (getT xs p).kind = 0) : (p, getT xs p) ∈ xs := by
  rcases Classical.em (∃ e ∈ xs, e.1 = p) with ⟨e, he, rfl⟩ | hn
  · rw [getT_in hu he]; exact he
  · rw [getT_out hu (fun e he h => hn ⟨e, he, h⟩)] at h
    exact absurd rfl h
theorem put_iff {xs : List NE} (hu : Up ordS xs) (p : ByteArray) (n : Nd) (e : NE) : e ∈ putN ordS p n xs ↔ e = (p, n) ∨ (e ∈ xs ∧ ¬ e.1 = p) := by
  rw [put_filter ordS_ord p n xs hu]
  simp only [List.mem_append, List.mem_filter, List.mem_cons, decide_eq_true_eq]
  have h3 := ordS_three e.1 p
  constructor
  · rintro (⟨h, hk⟩ | rfl | ⟨h, hk⟩)
    · exact .inr ⟨h, fun e' => by rw [e', ordS_refl] at hk; omega⟩
    · exact .inl rfl
    · exact .inr ⟨h, fun e' => by rw [e', ordS_refl] at hk; omega⟩
  · rintro (rfl | ⟨h, hk⟩)
    · exact .inr (.inl rfl)
    · rcases h3 with h3 | h3 | h3
      · exact .inl ⟨h, by omega⟩
      · exact absurd (ordS_zero h3) hk
      · exact .inr (.inr ⟨h, by omega⟩)
theorem drop_iff {xs : List NE} (hu : Up ordS xs) (p : ByteArray) (e : NE) : e ∈ dropN ordS p xs ↔ e ∈ xs ∧ ¬ e.1 = p := by
  rw [drop_filter ordS_ord p xs hu]
  simp [List.mem_filter, ordS_ord.iff]
/-- the ups of a path: its parent, and the parent's -/
theorem ups_parent {p u : ByteArray} (h : u ∈ upsS p) : ¬ parentS p = ⟨#[]⟩ ∧ parentS p ∈ upsS p ∧ (u = parentS p ∨ u ∈ upsS (parentS p)) := by
  rcases parent_last p with ⟨h0, _⟩ | ⟨hne, hl, hp⟩
  · rw [h0] at h; cases h
  · have hmem : parentS p ∈ upsS p := by rw [← hl]; exact List.getLast_mem hne
    refine ⟨hp, hmem, ?_⟩
    obtain ⟨k, hk1, hk2, hk3, hkr⟩ := ups_mem h
    obtain ⟨m, hm1, hm2, hm3, hmr⟩ := ups_mem hmem
    have hlen := upsS_len p
    have hm : partsS (parentS p) = (partsS p).take ((partsS p).length - 1) := by
      rw [← hl, List.getLast_eq_getElem]
      have hlt : (upsS p).length - 1 < (upsS p).length := by have := List.length_pos_iff.2 hne; omega
      have := ups_step p ((upsS p).length - 1) hlt
      rw [upsS_at p _ hlt]
      have hr : rightL p.data.toList = true := by
        cases hr : rightL p.data.toList with
        | true => rfl
        | false => rw [partsS_not hr] at hk2; simp at hk2
      rw [show (upsS p).length - 1 + 1 = (partsS p).length - 1 by have := List.length_pos_iff.2 hne; omega]
      rw [partsS_right hr] at hk2 ⊢
      have ht := right_take hr ((spS p).length - 1) (by omega)
      rw [partsS_right (by rw [data_mkB]; exact ht.1)]
      exact ht.2
    by_cases hkk : k = (partsS p).length - 1
    · left
      refine parts_inj (by rw [hk3, hm, hkk]) (by rw [hk3, List.length_take]; omega)
    · right
      refine ups_of (k := k) hk1 (by rw [hm, List.length_take]; omega) ?_
      rw [hk3, hm, List.take_take, Nat.min_eq_left (by omega)]
theorem ups_trans {u v p : ByteArray} (h1 : u ∈ upsS v) (h2 : v ∈ upsS p) : u ∈ upsS p := by
  obtain ⟨k, hk1, hk2, hk3, _⟩ := ups_mem h1
  obtain ⟨m, hm1, hm2, hm3, _⟩ := ups_mem h2
  rw [hm3, List.length_take] at hk2
  exact ups_of (k := k) hk1 (by omega) (by rw [hk3, hm3, List.take_take, Nat.min_eq_left (by omega)])
theorem ups_self {p : ByteArray} : ¬ p ∈ upsS p := fun h => by
  have := ups_order h
  rw [ordS_refl] at this
  omega
theorem away_iff (p : ByteArray) (e : NE) : awayT p e = true ↔ ¬ e.1 = p ∧ ¬ p ∈ upsS e.1 := by
  unfold Go.Proofs.YtihiakkeloejlaaGreatDoor.awayT
  rw [Bool.and_eq_true, Bool.not_eq_true', Bool.not_eq_true', decide_eq_false_iff_not, ← inS_iff]
  simp
/-- nothing is under a path that holds says so of -/
theorem holds_not {xs : List NE} (hu : Up ordS xs) (hp : Paths xs) {p : ByteArray} (h : holdsT xs p = false) : ∀ e ∈ xs, ¬ p ∈ upsS e.1 := fun e he hq => by
  rw [holds_any xs p hu hp, List.any_eq_false] at h
  exact h e he ((inS_iff _ _).2 hq)
theorem holds_no {xs : List NE} (hu : Up ordS xs) (hp : Paths xs) {p : ByteArray} (h : ∀ e ∈ xs, ¬ p ∈ upsS e.1) : holdsT xs p = false := by
  rw [holds_any xs p hu hp, List.any_eq_false]
  exact fun e he hq => h e he ((inS_iff _ _).1 hq)
/-- what may's answer 0 says -/
theorem may_zero {xs : List NE} {p : ByteArray} {n : Nd} (h : mayT xs p n = 0) : rightL p.data.toList = true ∧ ¬ n.kind = 0 ∧ nodeR n = 0 ∧ parentT xs p = 0 ∧ (n.kind = 2 ∨ holdsT xs p = false) ∧ ((getT xs p).kind = 0 → xs.length < 500) := by
  unfold mayT at h
  cases hr : rightL p.data.toList with
  | false => rw [if_pos hr] at h; cases h
  | true =>
    rw [if_neg (by rw [hr]; simp)] at h
    by_cases h0 : n.kind = 0
    · rw [if_pos h0] at h; cases h
    · rw [if_neg h0] at h
      by_cases h1 : nodeR n = 0
      · rw [if_neg (by simpa using h1)] at h
        by_cases h2 : parentT xs p = 0
        · rw [if_neg (by simpa using h2)] at h
          by_cases h3 : ¬ n.kind = 2 ∧ holdsT xs p = true
          · rw [if_pos h3] at h; cases h
          · rw [if_neg h3] at h
            by_cases h4 : (getT xs p).kind = 0 ∧ 500 ≤ xs.length
            · rw [if_pos h4] at h; cases h
            · refine ⟨rfl, h0, h1, h2, ?_, fun hk => by have := fun hl => h4 ⟨hk, hl⟩; omega⟩
              rcases Classical.em (n.kind = 2) with hk | hk
              · exact .inl hk
              · right
                cases hh : holdsT xs p with
                | false => rfl
                | true => exact absurd ⟨hk, hh⟩ h3
        · rw [if_pos h2] at h; exact absurd h h2
      · rw [if_pos h1] at h; exact absurd h h1
theorem may_of {xs : List NE} {p : ByteArray} {n : Nd} (h1 : rightL p.data.toList = true) (h2 : ¬ n.kind = 0) (h3 : nodeR n = 0) (h4 : parentT xs p = 0) (h5 : n.kind = 2 ∨ holdsT xs p = false) (h6 : (getT xs p).kind = 0 → xs.length < 500) : mayT xs p n = 0 := by
  unfold mayT
  rw [if_neg (by rw [h1]; simp), if_neg h2, if_neg (by simpa using h3), if_neg (by simpa using h4), if_neg (by rcases h5 with h | h <;> simp [h]), if_neg (fun h => by have := h6 h.1; omega)]
theorem parentT_zero {xs : List NE} {p : ByteArray} (h : parentT xs p = 0) : parentS p = ⟨#[]⟩ ∨ (getT xs (parentS p)).kind = 2 := by
  unfold parentT at h
  by_cases h0 : parentS p = ⟨#[]⟩
  · exact .inl h0
  · rw [if_neg h0] at h
    by_cases h1 : (getT xs (parentS p)).kind = 0
    · rw [if_pos h1] at h; cases h
    · rw [if_neg h1] at h
      by_cases h2 : (getT xs (parentS p)).kind = 2
      · exact .inr h2
      · rw [if_neg h2] at h; cases h
theorem parentT_of {xs : List NE} {p : ByteArray} (h : parentS p = ⟨#[]⟩ ∨ (getT xs (parentS p)).kind = 2) : parentT xs p = 0 := by
  unfold parentT
  rcases h with h | h
  · rw [if_pos h]
  · by_cases h0 : parentS p = ⟨#[]⟩
    · rw [if_pos h0]
    · rw [if_neg h0, if_neg (by rw [h]; decide), if_pos h]
theorem TI.putN {xs : List NE} (h : TI xs) {p : ByteArray} {n : Nd} (hm : mayT xs p n = 0) : TI (putN ordS p n xs) := by
  obtain ⟨m1, m2, m3, m4, m5, _⟩ := may_zero hm
  refine ⟨put_up ordS_ord p n xs h.up, h.paths.put m1 n, fun e he => ?_, fun e he u hu => ?_⟩
  · rcases (put_iff h.up p n e).1 he with rfl | ⟨he, _⟩
    · exact ⟨m2, m3⟩
    · exact h.nod e he
  · rcases (put_iff h.up p n e).1 he with rfl | ⟨he, hep⟩
    · obtain ⟨hne, hmem, hor⟩ := ups_parent hu
      have hk : (getT xs (parentS p)).kind = 2 := (parentT_zero m4).resolve_left hne
      have hd := getT_kind h.up (p := parentS p) (by rw [hk]; decide)
      have hpp : ¬ parentS p = p := fun e => ups_self (p := p) (by rw [e] at hmem; exact hmem)
      rcases hor with rfl | hor
      · exact ⟨_, (put_iff h.up p n _).2 (.inr ⟨hd, hpp⟩), rfl, hk⟩
      · obtain ⟨d, hd1, rfl, hd3⟩ := h.par _ hd u hor
        exact ⟨d, (put_iff h.up p n _).2 (.inr ⟨hd1, fun e => ups_self (e ▸ hu : p ∈ upsS p)⟩), rfl, hd3⟩
    · obtain ⟨d, hd1, rfl, hd3⟩ := h.par e he u hu
      by_cases hdp : d.1 = p
      · rcases m5 with hk | hh
        · exact ⟨(p, n), (put_iff h.up p n _).2 (.inl rfl), hdp.symm, hk⟩
        · exact absurd (hdp ▸ hu) (holds_not h.up h.paths hh e he)
      · exact ⟨d, (put_iff h.up p n _).2 (.inr ⟨hd1, hdp⟩), rfl, hd3⟩
theorem TI.putT {xs : List NE} (h : TI xs) (p : ByteArray) (n : Nd) : TI (putT xs p n) := by
  unfold Sw.putT
  split
  · rename_i hm; exact h.putN hm
  · exact h
theorem TI.dropT {xs : List NE} (h : TI xs) (p : ByteArray) : TI (dropT xs p) := by
  unfold Sw.dropT
  split
  · rename_i hm
    have hh : holdsT xs p = false := by
      unfold whyDrop at hm
      cases hh : holdsT xs p with
      | false => rfl
      | true =>
        by_cases h0 : (getT xs p).kind = 0
        · rw [if_pos h0] at hm; cases hm
        · rw [if_neg h0, if_pos hh] at hm; cases hm
    refine ⟨drop_up ordS_ord p xs h.up, fun e he => h.paths e ((drop_iff h.up p e).1 he).1, fun e he => h.nod e ((drop_iff h.up p e).1 he).1, fun e he u hu => ?_⟩
    obtain ⟨d, hd1, rfl, hd3⟩ := h.par e ((drop_iff h.up p e).1 he).1 u hu
    refine ⟨d, (drop_iff h.up p d).2 ⟨hd1, fun e' => ?_⟩, rfl, hd3⟩
    exact holds_not h.up h.paths hh e ((drop_iff h.up p e).1 he).1 (e' ▸ hu)
  · exact h
theorem Up.filter {xs : List NE} (h : Up ordS xs) (f : NE → Bool) : Up ordS (xs.filter f) := List.Pairwise.filter f h
theorem TI.away {xs : List NE} (h : TI xs) (p : ByteArray) : TI (xs.filter (awayT p)) := by
  refine ⟨h.up.filter _, fun e he => h.paths e (List.mem_filter.1 he).1, fun e he => h.nod e (List.mem_filter.1 he).1, fun e he u hu => ?_⟩
  obtain ⟨he, ha⟩ := List.mem_filter.1 he
  obtain ⟨h1, h2⟩ := (away_iff p e).1 ha
  obtain ⟨d, hd1, rfl, hd3⟩ := h.par e he u hu
  exact ⟨d, List.mem_filter.2 ⟨hd1, (away_iff p d).2 ⟨fun e' => h2 (e' ▸ hu), fun hq => h2 (ups_trans hq hu)⟩⟩, rfl, hd3⟩
/-- a row without the keys of another one -/
def cutT (xs R : List NE) : List NE := xs.filter fun e => !R.any fun r => decide (r.1 = e.1)
theorem cut_iff (xs R : List NE) (e : NE) : e ∈ cutT xs R ↔ e ∈ xs ∧ ∀ r ∈ R, ¬ r.1 = e.1 := by
  unfold cutT
  rw [List.mem_filter]
  simp
theorem und_iff (p : ByteArray) (xs : List NE) (e : NE) : e ∈ undT p xs ↔ e ∈ xs ∧ (e.1 = p ∨ p ∈ upsS e.1) := by
  unfold Go.Proofs.YtihiakkeloejlaaGreatDoor.undT
  rw [List.mem_filter, Bool.not_eq_true']
  constructor
  · rintro ⟨h1, h2⟩
    refine ⟨h1, ?_⟩
    rcases Classical.em (e.1 = p) with h | h
    · exact .inl h
    · right
      rcases Classical.em (p ∈ upsS e.1) with h' | h'
      · exact h'
      · rw [(away_iff p e).2 ⟨h, h'⟩] at h2; cases h2
  · rintro ⟨h1, h2⟩
    refine ⟨h1, ?_⟩
    cases ha : awayT p e with
    | false => rfl
    | true =>
      have := (away_iff p e).1 ha
      rcases h2 with h2 | h2
      · exact absurd h2 this.1
      · exact absurd h2 this.2
/-- what was emptied from behind -/
theorem empty_fold {xs : List NE} (h : TI xs) (p : ByteArray) : (undT p xs).reverse.foldl (fun ys e => dropT ys e.1) xs = xs.filter (awayT p) := by
  have hU : Up ordS (undT p xs) := h.up.filter _
  have key : ∀ R V : List NE, V ++ R = undT p xs → R.foldr (fun e ys => dropT ys e.1) xs = cutT xs R := by
    intro R
    induction R with
    | nil => intro V _; unfold cutT; simp; exact (List.filter_eq_self.2 fun _ _ => rfl).symm
    | cons e R ih =>
      intro V hV
      have hR := ih (V ++ [e]) (by rw [← hV]; simp)
      rw [List.foldr_cons, hR]
      have heU : e ∈ undT p xs := by rw [← hV]; simp
      have hex := (und_iff p xs e).1 heU
      have hup : Up ordS (e :: R) := by rw [← hV] at hU; exact (List.pairwise_append.1 hU).2.1
      have hC : Up ordS (cutT xs R) := h.up.filter _
      have hP : Paths (cutT xs R) := fun a ha => h.paths a ((cut_iff xs R a).1 ha).1
      have heC : e ∈ cutT xs R := (cut_iff xs R e).2 ⟨hex.1, fun r hr e' => by
        have := hup.head r hr
        rw [e', ordS_refl] at this
        omega⟩
      have hw : whyDrop (cutT xs R) e.1 = 0 := by
        unfold whyDrop
        rw [getT_in hC heC, if_neg (h.nod e hex.1).1, holds_no hC hP (fun x hx hq => ?_), if_neg (by simp)]
        obtain ⟨hx1, hx2⟩ := (cut_iff xs R x).1 hx
        have hxU : x ∈ undT p xs := (und_iff p xs x).2 ⟨hx1, .inr (by
          rcases hex.2 with h' | h'
          · rw [← h']; exact hq
          · exact ups_trans h' hq)⟩
        have ho := ups_order hq
        rw [← hV] at hxU hU
        rcases List.mem_append.1 hxU with hxV | hxR
        · have := (List.pairwise_append.1 hU).2.2 x hxV e (List.mem_cons_self ..)
          have hn := ordS_neg e.1 x.1
          omega
        · rcases List.mem_cons.1 hxR with rfl | hxR
          · rw [ordS_refl] at ho; omega
          · exact hx2 x hxR rfl
      unfold dropT
      rw [if_pos hw, drop_filter ordS_ord e.1 _ hC]
      unfold cutT
      rw [List.filter_filter]
      refine List.filter_congr fun a ha => ?_
      simp only [List.any_cons, Bool.not_or]
      congr 2
      rw [Bool.eq_iff_iff]
      simp only [decide_eq_true_eq, ordS_ord.iff]
      exact eq_comm
  rw [List.foldl_reverse]
  have := key (undT p xs) [] rfl
  rw [this]
  unfold cutT
  refine List.filter_congr fun e he => ?_
  cases ha : awayT p e with
  | true =>
    rw [Bool.not_eq_true', List.any_eq_false]
    intro r hr hk
    have hre : r = e := up_key h.up ((und_iff p xs r).1 hr).1 he (by simpa using hk)
    subst hre
    obtain ⟨h1, h2⟩ := (away_iff p r).1 ha
    rcases ((und_iff p xs r).1 hr).2 with h' | h'
    · exact h1 h'
    · exact h2 h'
  | false =>
    rw [Bool.not_eq_false', List.any_eq_true]
    refine ⟨e, List.mem_filter.2 ⟨he, by rw [ha]; rfl⟩, by simp⟩
end Sw
/- tree.Clone; dirfs.emptied: what is at a path and under it goes. -/
set_option linter.unusedVariables false
set_option linter.unusedSimpArgs false
namespace Go.Proofs.YtihiakkeloejlaaGreatDoor
open Go Go.RowKit
open Sw
theorem own_turn {W W' : World} {bt bm base : Nat} {xs : List NE} {v : Value} {l : List NE} (h : TreeAt W bt bm xs) (ho : OwnIt W base v l) (hg : W.grownBy W' (some bm)) : OwnIt W' base v l := by
  obtain ⟨u, hb, _⟩ := h.map.row
  exact ho.kept hg (.inr (own_ne_blk ho hb (by decide)))
theorem dropFold_len (L : List NE) : ∀ xs : List NE, (L.foldl (fun ys e => dropT ys e.1) xs).length ≤ xs.length := by
  induction L with
  | nil => intro xs; exact Nat.le_refl _
  | cons e L ih => intro xs; exact Nat.le_trans (ih _) (dropT_len xs e.1)
end Go.Proofs.YtihiakkeloejlaaGreatDoor
/- dirfs: a live directory, its step. -/
set_option linter.unusedVariables false
set_option linter.unusedSimpArgs false
namespace Sw
/-- a live directory's state -/
structure DS where
  room : Int
  fuse : Int
  ops : Int
  off : Bool
  xs : List NE
/-- a change is done, if it may be, and there is power -/
def stepD (s : DS) (why : Int) (ys : List NE) : Int × DS :=
  if s.off = true then (10, s) else if ¬ why = 0 then (why, s) else if s.fuse = 0 then (10, { s with off := true }) else (0, { s with fuse := max (s.fuse - 1) (-1), ops := s.ops + 1, xs := ys })
structure DS.Ok (s : DS) (k : Nat) : Prop where
  f0 : -1 ≤ s.fuse
  f1 : s.fuse ≤ 9223372036854775807
  o0 : 0 ≤ s.ops
  o1 : s.ops ≤ k
theorem DS.Ok.step {s : DS} {k : Nat} (h : s.Ok k) (why : Int) (ys : List NE) : (stepD s why ys).2.Ok (k + 1) := by
  have := h.f0; have := h.f1; have := h.o0; have := h.o1
  unfold stepD
  split
  · exact ⟨h.f0, h.f1, h.o0, by simp; omega⟩
  · split
    · exact ⟨h.f0, h.f1, h.o0, by simp; omega⟩
    · split
      · exact ⟨h.f0, h.f1, h.o0, by simp; omega⟩
      · exact ⟨by simp; omega, by simp; omega, by simp; omega, by simp; omega⟩
end Sw
namespace Go.Proofs.YtihiakkeloejlaaGreatDoor
open Go Go.RowKit
open Sw
theorem _root_.Go.Proofs.YtihiakkeloejlaaGreatDoor.TreeAt.far {W W' : World} {bt bm g : Nat} {xs : List NE} {t : TypeId} {cs : Array Value} (h : TreeAt W bt bm xs) (hB : Blk W g t cs) (h1 : 93 ≠ t) (h2 : 116 ≠ t) (h3 : 101 ≠ t) (hg : W.grownBy W' (some g)) : TreeAt W' bt bm xs := by
  obtain ⟨v, hb, ho⟩ := h.map.row
  refine ⟨h.box.grown hg (by simpa using Blk.other h.box hB h1), ⟨v, hb.grown hg (by simpa using Blk.other hb hB h2), ho.kept hg (.inr (own_ne_blk ho hB h3))⟩, h.map.up, h.map.ok⟩
end Go.Proofs.YtihiakkeloejlaaGreatDoor
/- dirfs: fits, Put, Remove, Clear. -/
set_option linter.unusedVariables false
set_option linter.unusedSimpArgs false
namespace Sw
open Go.Proofs.YtihiakkeloejlaaGreatDoor (bytesT)
/-- is there no room for a tree? -/
def fitsW (room : Int) (ys : List NE) : Int := if 0 ≤ room ∧ room < (bytesT ys : Int) then 9 else 0
def putW (room : Int) (xs : List NE) (p : ByteArray) (n : Nd) : Int := if ¬ mayT xs p n = 0 then mayT xs p n else fitsW room (putT xs p n)
end Sw
namespace Go.Proofs.YtihiakkeloejlaaGreatDoor
open Go Go.RowKit
open Sw
theorem own_blk_turn {W W' : World} {bt bm g : Nat} {xs : List NE} {t : TypeId} {cs : Array Value} (h : TreeAt W bt bm xs) (hB : Blk W g t cs) (ht : 116 ≠ t) (hg : W.grownBy W' (some bm)) : Blk W' g t cs := by
  obtain ⟨u, hb, _⟩ := h.map.row
  exact hB.grown hg (by simpa using (Blk.other hb hB ht).symm)
end Go.Proofs.YtihiakkeloejlaaGreatDoor
/- dirfs: Remove, Clear. -/
set_option linter.unusedVariables false
set_option linter.unusedSimpArgs false
namespace Sw
open Go.Proofs.YtihiakkeloejlaaGreatDoor (awayT)
/-- may what is at a path be cleared? -/
def clearW (xs : List NE) (p : ByteArray) : Int := if (getT xs p).kind = 0 then 7 else 0
end Sw
namespace Go.Proofs.YtihiakkeloejlaaGreatDoor
open Go Go.RowKit
open Sw
end Go.Proofs.YtihiakkeloejlaaGreatDoor
/- dirfs: Graft. -/
set_option linter.unusedVariables false
set_option linter.unusedSimpArgs false
namespace Sw
open Go.Proofs.YtihiakkeloejlaaGreatDoor (awayT putT_len)
/-- entries are put, one behind the other, until one may not be -/
def putsT : List NE → List NE → Int × List NE
  | ys, [] => (0, ys)
  | ys, x :: r => if mayT ys x.1 x.2 = 0 then putsT (putT ys x.1 x.2) r else (mayT ys x.1 x.2, ys)
theorem putsT_step (ys : List NE) (L : List NE) (i : Nat) (h : i < L.length) : putsT ys (L.drop i) = if mayT ys L[i].1 L[i].2 = 0 then putsT (putT ys L[i].1 L[i].2) (L.drop (i + 1)) else (mayT ys L[i].1 L[i].2, ys) := by
  rw [List.drop_eq_getElem_cons h]
  rfl
theorem putsT_len : ∀ (L ys : List NE), (putsT ys L).2.length ≤ ys.length + L.length
  | [], ys => Nat.le_refl _
  | x :: L, ys => by
    unfold putsT
    split
    · have h1 := putsT_len L (putT ys x.1 x.2)
      have h2 := putT_len ys x.1 x.2
      simp only [List.length_cons]
      omega
    · simp only [List.length_cons]; omega
theorem putsT_ti : ∀ (L : List NE) {ys : List NE}, TI ys → TI (putsT ys L).2
  | [], ys, h => h
  | x :: L, ys, h => by
    unfold putsT
    split
    · exact putsT_ti L (h.putT x.1 x.2)
    · exact h
def graftW (room : Int) (xs : List NE) (p : ByteArray) (l : List NE) : Int × List NE :=
  if l.any (awayT p) = true then (1, xs) else if (putsT (xs.filter (awayT p)) l).1 = 0 then (fitsW room (putsT (xs.filter (awayT p)) l).2, (putsT (xs.filter (awayT p)) l).2) else putsT (xs.filter (awayT p)) l
end Sw
namespace Go.Proofs.YtihiakkeloejlaaGreatDoor
open Go Go.RowKit
open Sw
end Go.Proofs.YtihiakkeloejlaaGreatDoor
/- A path that is renamed: plain. -/
set_option linter.unusedVariables false
set_option linter.unusedSimpArgs false
namespace Sw
open Go
open Go.Proofs.YtihiakkeloejlaaGreatDoor (partsS awayT undT)
theorem jnL_append : ∀ (a b : List (List UInt8)), a ≠ [] → b ≠ [] → jnL (a ++ b) = jnL a ++ 47 :: jnL b
  | [], _, h, _ => absurd rfl h
  | [x], b, _, hb => by
    rw [List.singleton_append, jnL_cons x b hb]
    rfl
  | x :: y :: a, b, _, hb => by
    rw [List.cons_append, jnL_cons x ((y :: a) ++ b) (by simp), jnL_append (y :: a) b (by simp) hb, jnL_cons x (y :: a) (by simp), List.append_assoc]
    rfl
theorem datL_spS (s : ByteArray) : datL (spS s) = spL s.data.toList := by
  unfold spS datL
  rw [List.map_map]
  conv => rhs; rw [← List.map_id (spL s.data.toList)]
  refine List.map_congr_left fun x _ => ?_
  exact data_mkB x
theorem spS_sl (s : ByteArray) : ∀ x ∈ datL (spS s), (47 : UInt8) ∉ x := by rw [datL_spS]; exact spL_no _
theorem datL_app (a b : List ByteArray) : datL (a ++ b) = datL a ++ datL b := by unfold datL; rw [List.map_append]
theorem datL_ne {l : List ByteArray} (h : l ≠ []) : datL l ≠ [] := by
  intro e
  exact h (List.map_eq_nil_iff.1 (show l.map _ = [] from e))
/-- the parts of a text of some bytes -/
theorem spS_of {s : ByteArray} {l : List ByteArray} (h : l ≠ []) (hn : ∀ x ∈ datL l, (47 : UInt8) ∉ x) (hs : s.data.toList = jnL (datL l)) : spS s = l := by
  have h1 : datL (spS s) = datL l := by rw [datL_spS, hs, spL_jnL _ (datL_ne h) hn]
  have hinj : ∀ a b : List ByteArray, datL a = datL b → a = b := by
    intro a
    induction a with
    | nil => intro b hb; cases b with
      | nil => rfl
      | cons y b => cases hb
    | cons x a ih => intro b hb; cases b with
      | nil => cases hb
      | cons y b =>
        have h0 := List.cons.inj (show x.data.toList :: datL a = y.data.toList :: datL b from hb)
        rw [dat_inj h0.1, ih b h0.2]
  exact hinj _ _ h1
/-- what is renamed of a path -/
def mvS (fr tt q : ByteArray) : ByteArray := if q = fr ∨ inS (upsS q) fr = true then tt ++ q.extract fr.size q.size else q
theorem mv_at {fr tt q : ByteArray} (h : q = fr ∨ fr ∈ upsS q) : mvS fr tt q = tt ++ q.extract fr.size q.size := by
  unfold mvS
  rw [if_pos (h.imp id (inS_iff _ _).2)]
theorem mv_away {fr tt q : ByteArray} (h : ¬ q = fr) (h2 : ¬ fr ∈ upsS q) : mvS fr tt q = q := by
  unfold mvS
  rw [if_neg (fun h' => h'.elim h (fun h3 => h2 ((inS_iff _ _).1 h3)))]
theorem right_of_ups {q u : ByteArray} (h : u ∈ upsS q) : rightL q.data.toList = true := by
  obtain ⟨k, h1, h2, _, _⟩ := ups_mem h
  cases hr : rightL q.data.toList with
  | true => rfl
  | false => rw [partsS_not hr] at h2; simp at h2
theorem ups_take {q u : ByteArray} (h : u ∈ upsS q) : (spS u).length < (spS q).length ∧ spS u = (spS q).take (spS u).length := by
  obtain ⟨k, h1, h2, h3, h4⟩ := ups_mem h
  have hr := right_of_ups h
  rw [partsS_right h4, partsS_right hr] at h3
  rw [partsS_right hr] at h2
  have hl : (spS u).length = k := by rw [h3, List.length_take]; omega
  exact ⟨by omega, by rw [hl]; exact h3⟩
theorem app_data (a b : ByteArray) : (a ++ b).data.toList = a.data.toList ++ b.data.toList := by simp
/-- the parts of a path that was renamed -/
theorem mv_parts {fr tt q : ByteArray} (h : q = fr ∨ fr ∈ upsS q) : spS (mvS fr tt q) = spS tt ++ (spS q).drop (spS fr).length := by
  rw [mv_at h]
  rcases h with rfl | h
  · have e : q.extract q.size q.size = ⟨#[]⟩ := dat_inj (by rw [ext_drop]; simp)
    rw [e, List.drop_length, List.append_nil]
    congr 1
    exact dat_inj (by rw [app_data]; simp)
  · obtain ⟨hlt, htk⟩ := ups_take h
    have hne : (spS q).drop (spS fr).length ≠ [] := fun e => by have := congrArg List.length e; simp at this; omega
    have hq : q.data.toList = fr.data.toList ++ 47 :: jnL (datL ((spS q).drop (spS fr).length)) := by
      have h1 : jnL (datL (spS q)) = q.data.toList := by rw [datL_spS, jnL_spL]
      have h2 : jnL (datL (spS fr)) = fr.data.toList := by rw [datL_spS, jnL_spL]
      rw [← h1, ← h2]
      conv => lhs; rw [← List.take_append_drop (spS fr).length (spS q)]
      rw [datL_app, ← htk, jnL_append _ _ (datL_ne (spS_ne fr)) (datL_ne hne)]
    refine spS_of (by simp [spS_ne]) (fun x hx => ?_) ?_
    · rw [datL_app] at hx
      rcases List.mem_append.1 hx with hx | hx
      · exact spS_sl tt x hx
      · refine spS_sl q x ?_
        obtain ⟨y, hy, rfl⟩ := List.mem_map.1 (show x ∈ ((spS q).drop (spS fr).length).map _ from hx)
        exact List.mem_map.2 ⟨y, List.mem_of_mem_drop hy, rfl⟩
    · rw [app_data, ext_drop, hq]
      have hfs : fr.size = fr.data.toList.length := by simp
      rw [hfs, List.drop_left, datL_app, jnL_append _ _ (datL_ne (spS_ne tt)) (datL_ne hne)]
      congr 1
      rw [datL_spS, jnL_spL]
theorem mv_self (fr tt : ByteArray) : mvS fr tt fr = tt := by
  rw [mv_at (.inl rfl)]
  have e : fr.extract fr.size fr.size = ⟨#[]⟩ := dat_inj (by rw [ext_drop]; simp)
  rw [e]
  exact dat_inj (by rw [app_data]; simp)
theorem spS_inj {a b : ByteArray} (h : spS a = spS b) : a = b := dat_inj (by
  rw [← jnL_spL a.data.toList, ← jnL_spL b.data.toList, ← datL_spS, ← datL_spS, h])
/-- the parts of what is at a path or under it -/
theorem at_take {fr q : ByteArray} (h : q = fr ∨ fr ∈ upsS q) : spS q = spS fr ++ (spS q).drop (spS fr).length := by
  rcases h with rfl | h
  · rw [List.drop_length, List.append_nil]
  · conv => lhs; rw [← List.take_append_drop (spS fr).length (spS q)]
    rw [← (ups_take h).2]
theorem mv_inj {fr tt q r : ByteArray} (hq : q = fr ∨ fr ∈ upsS q) (hr : r = fr ∨ fr ∈ upsS r) (h : mvS fr tt q = mvS fr tt r) : q = r := by
  have h1 := congrArg spS h
  rw [mv_parts hq, mv_parts hr, List.append_cancel_left_eq] at h1
  exact spS_inj (by rw [at_take hq, at_take hr, h1])
theorem ups_iff {u q : ByteArray} (hu : rightL u.data.toList = true) (hq : rightL q.data.toList = true) : u ∈ upsS q ↔ (spS u).length < (spS q).length ∧ spS u = (spS q).take (spS u).length := by
  refine ⟨ups_take, fun h => ?_⟩
  have h0 : 0 < (spS u).length := List.length_pos_iff.2 (spS_ne u)
  exact ups_of (k := (spS u).length) h0 (by rw [partsS_right hq]; exact h.1) (by rw [partsS_right hu, partsS_right hq]; exact h.2)
/-- renamed, a path is at the new place or under it -/
theorem mv_under {fr tt q : ByteArray} (h : q = fr ∨ fr ∈ upsS q) (ht : rightL tt.data.toList = true) (hm : rightL (mvS fr tt q).data.toList = true) : mvS fr tt q = tt ∨ tt ∈ upsS (mvS fr tt q) := by
  rcases h with rfl | h
  · exact .inl (mv_self _ _)
  · right
    rw [ups_iff ht hm, mv_parts (.inr h)]
    have := (ups_take h).1
    exact ⟨by simp; omega, by rw [List.take_left]⟩
theorem mv_ups {fr tt q r : ByteArray} (hq : q = fr ∨ fr ∈ upsS q) (hr : r = fr ∨ fr ∈ upsS r) (q1 : rightL q.data.toList = true) (r1 : rightL r.data.toList = true) (q2 : rightL (mvS fr tt q).data.toList = true) (r2 : rightL (mvS fr tt r).data.toList = true) :
    mvS fr tt q ∈ upsS (mvS fr tt r) ↔ q ∈ upsS r := by
  rw [ups_iff q2 r2, ups_iff q1 r1, mv_parts hq, mv_parts hr]
  have e1 := at_take hq
  have e2 := at_take hr
  generalize (spS q).drop (spS fr).length = a at *
  generalize (spS r).drop (spS fr).length = b at *
  rw [e1, e2]
  simp only [List.length_append]
  have key : ∀ X : List ByteArray, (X ++ b).take (X.length + a.length) = X ++ b.take a.length := fun X => by
    rw [List.take_append, List.take_of_length_le (by omega), show X.length + a.length - X.length = a.length by omega]
  rw [key, key, List.append_cancel_left_eq, List.append_cancel_left_eq]
  constructor
  · rintro ⟨h1, h2⟩; exact ⟨by omega, h2⟩
  · rintro ⟨h1, h2⟩; exact ⟨by omega, h2⟩
theorem parentS_sp {p : ByteArray} (h : rightL p.data.toList = true) : parentS p = mkB (jnL (datL (spS p).dropLast)) := by
  unfold parentS
  rw [partsS_right h]
theorem spS_parent {p : ByteArray} (h : rightL p.data.toList = true) (h2 : 2 ≤ (spS p).length) : spS (parentS p) = (spS p).dropLast := by
  rw [parentS_sp h]
  refine spS_of (fun e => by have := congrArg List.length e; simp at this; omega) (fun x hx => ?_) (by rw [data_mkB])
  obtain ⟨y, hy, rfl⟩ := List.mem_map.1 (show x ∈ ((spS p).dropLast).map _ from hx)
  exact spS_sl p _ (List.mem_map.2 ⟨y, List.dropLast_subset _ hy, rfl⟩)
/-- the parent of a path that was renamed -/
theorem mv_parent {fr tt q : ByteArray} (h : fr ∈ upsS q) (hm : rightL (mvS fr tt q).data.toList = true) : parentS (mvS fr tt q) = mvS fr tt (parentS q) ∧ (parentS q = fr ∨ fr ∈ upsS (parentS q)) := by
  obtain ⟨_, hpq, hor⟩ := ups_parent h
  have hor' : parentS q = fr ∨ fr ∈ upsS (parentS q) := hor.imp Eq.symm id
  refine ⟨?_, hor'⟩
  have hr := right_of_ups h
  have hl := (ups_take h).1
  have h0 : 0 < (spS fr).length := List.length_pos_iff.2 (spS_ne fr)
  have ht0 : 0 < (spS tt).length := List.length_pos_iff.2 (spS_ne tt)
  have hp2 : 2 ≤ (spS (mvS fr tt q)).length := by rw [mv_parts (.inr h)]; simp; omega
  refine spS_inj ?_
  rw [spS_parent hm hp2, mv_parts hor', spS_parent hr (by omega), mv_parts (.inr h)]
  rw [List.dropLast_append_of_ne_nil (fun e => by have := congrArg List.length e; simp at this; omega)]
  congr 1
  rw [List.dropLast_eq_take, List.dropLast_eq_take, List.length_drop, List.drop_take]
  congr 1
  omega
/-- and back -/
theorem mv_back {fr tt q : ByteArray} (h : q = fr ∨ fr ∈ upsS q) (ht : rightL tt.data.toList = true) (hm : rightL (mvS fr tt q).data.toList = true) : mvS tt fr (mvS fr tt q) = q := by
  refine spS_inj ?_
  rw [mv_parts (mv_under h ht hm), mv_parts h, List.drop_left]
  exact (at_take h).symm
end Sw
