/- Several texts, joined for the limit of sixty files; each one opens with its own comment. -/
import Derived.Test.YtlfeeiloijmagaaGreatDoorJoin20
import Derived.Test.YtlfeeiloijmagaaGreatDoorJoin16
import Derived.Test.YtlfeeiloijmagaaGreatDoorJoin5
/- A tree's rows: what always holds of them, and what a path's clearing leaves; plain. -/
set_option linter.unusedVariables false
set_option linter.unusedSimpArgs false
namespace Sw
open Go
open Go.Proofs.YtlfeeiloijmagaaGreatDoor (partsS awayT undT)
/-- what holds of a tree's entries -/
structure TI (xs : List NE) : Prop where
  up : Up ordS xs
  paths : Paths xs
  nod : ∀ e ∈ xs, ¬ e.2.kind = 0 ∧ nodeR e.2 = 0
  par : ∀ e ∈ xs, ∀ u ∈ upsS e.1, ∃ d ∈ xs, d.1 = u ∧ d.2.kind = 2
theorem TI.nil : TI [] := ⟨List.Pairwise.nil, fun _ h => absurd h (by simp), fun _ h => absurd h (by simp), fun _ h => absurd h (by simp)⟩
theorem up_key {xs : List NE} (hu : Up ordS xs) {a b : NE} (ha : a ∈ xs) (hb : b ∈ xs) (h : a.1 = b.1) : a = b := by
  induction xs with
  | nil => cases ha
  | cons x xs ih =>
    have hself : ∀ y ∈ xs, ¬ y.1 = x.1 := fun y hy e => by
      have := hu.head y hy
      rw [e, ordS_refl] at this
      omega
    rcases List.mem_cons.1 ha with rfl | ha
    · rcases List.mem_cons.1 hb with rfl | hb
      · rfl
      · exact absurd h.symm (hself b hb)
    · rcases List.mem_cons.1 hb with hbx | hb
      · exact absurd (h.trans (by rw [hbx])) (hself _ ha)
      · exact ih hu.tail ha hb
theorem getT_in {xs : List NE} (hu : Up ordS xs) {e : NE} (h : e ∈ xs) : getT xs e.1 = e.2 := by
  unfold getT
  rw [get_find ordS_ord e.1 xs hu]
  cases hf : xs.find? (fun x => decide (ordS x.1 e.1 = 0)) with
  | none =>
    have := List.find?_eq_none.1 hf e h
    simp [ordS_refl] at this
  | some x =>
    have h0 : ordS x.1 e.1 = 0 := by have := List.find?_some hf; simpa using this
    rw [up_key hu (List.mem_of_find?_eq_some hf) h (ordS_zero h0)]
    rfl
theorem getT_out {xs : List NE} (hu : Up ordS xs) {p : ByteArray} (h : ∀ e ∈ xs, ¬ e.1 = p) : getT xs p = ndZ := by
  unfold getT
  rw [get_find ordS_ord p xs hu, List.find?_eq_none.2 (fun e he => by have := h e he; simp [ordS_ord.iff, this])]
  rfl
theorem getT_kind {xs : List NE} (hu : Up ordS xs) {p : ByteArray} (h : ¬ (getT xs p).kind = 0) : (p, getT xs p) ∈ xs := by
  rcases Classical.em (∃ e ∈ xs, e.1 = p) with ⟨e, he, rfl⟩ | hn
  · rw [getT_in hu he]; exact he
  · rw [getT_out hu (fun e he h => hn ⟨e, he, h⟩)] at h
    exact absurd rfl h
theorem put_iff {xs : List NE} (hu : Up ordS xs) (p : ByteArray) (n : Nd) (e : NE) : e ∈ putN ordS p n xs ↔ e = (p, n) ∨ (e ∈ xs ∧ ¬ e.1 = p) := by
  rw [put_filter ordS_ord p n xs hu]
  simp only [List.mem_append, List.mem_filter, List.mem_cons, decide_eq_true_eq]
  have h3 := ordS_three e.1 p
  constructor
  · rintro (⟨h, hk⟩ | rfl | ⟨h, hk⟩)
    · exact .inr ⟨h, fun e' => by rw [e', ordS_refl] at hk; omega⟩
    · exact .inl rfl
    · exact .inr ⟨h, fun e' => by rw [e', ordS_refl] at hk; omega⟩
  · rintro (rfl | ⟨h, hk⟩)
    · exact .inr (.inl rfl)
    · rcases h3 with h3 | h3 | h3
      · exact .inl ⟨h, by omega⟩
      · exact absurd (ordS_zero h3) hk
      · exact .inr (.inr ⟨h, by omega⟩)
theorem drop_iff {xs : List NE} (hu : Up ordS xs) (p : ByteArray) (e : NE) : e ∈ dropN ordS p xs ↔ e ∈ xs ∧ ¬ e.1 = p := by
  rw [drop_filter ordS_ord p xs hu]
  simp [List.mem_filter, ordS_ord.iff]
/-- the ups of a path: its parent, and the parent's -/
theorem ups_parent {p u : ByteArray} (h : u ∈ upsS p) : ¬ parentS p = ⟨#[]⟩ ∧ parentS p ∈ upsS p ∧ (u = parentS p ∨ u ∈ upsS (parentS p)) := by
  rcases parent_last p with ⟨h0, _⟩ | ⟨hne, hl, hp⟩
  · rw [h0] at h; cases h
  · have hmem : parentS p ∈ upsS p := by rw [← hl]; exact List.getLast_mem hne
    refine ⟨hp, hmem, ?_⟩
    obtain ⟨k, hk1, hk2, hk3, hkr⟩ := ups_mem h
    obtain ⟨m, hm1, hm2, hm3, hmr⟩ := ups_mem hmem
    have hlen := upsS_len p
    have hm : partsS (parentS p) = (partsS p).take ((partsS p).length - 1) := by
      rw [← hl, List.getLast_eq_getElem]
      have hlt : (upsS p).length - 1 < (upsS p).length := by have := List.length_pos_iff.2 hne; omega
      have := ups_step p ((upsS p).length - 1) hlt
      rw [upsS_at p _ hlt]
      have hr : rightL p.data.toList = true := by
        cases hr : rightL p.data.toList with
        | true => rfl
        | false => rw [partsS_not hr] at hk2; simp at hk2
      rw [show (upsS p).length - 1 + 1 = (partsS p).length - 1 by have := List.length_pos_iff.2 hne; omega]
      rw [partsS_right hr] at hk2 ⊢
      have ht := right_take hr ((spS p).length - 1) (by omega)
      rw [partsS_right (by rw [data_mkB]; exact ht.1)]
      exact ht.2
    by_cases hkk : k = (partsS p).length - 1
    · left
      refine parts_inj (by rw [hk3, hm, hkk]) (by rw [hk3, List.length_take]; omega)
    · right
      refine ups_of (k := k) hk1 (by rw [hm, List.length_take]; omega) ?_
      rw [hk3, hm, List.take_take, Nat.min_eq_left (by omega)]
theorem ups_trans {u v p : ByteArray} (h1 : u ∈ upsS v) (h2 : v ∈ upsS p) : u ∈ upsS p := by
  obtain ⟨k, hk1, hk2, hk3, _⟩ := ups_mem h1
  obtain ⟨m, hm1, hm2, hm3, _⟩ := ups_mem h2
  rw [hm3, List.length_take] at hk2
  exact ups_of (k := k) hk1 (by omega) (by rw [hk3, hm3, List.take_take, Nat.min_eq_left (by omega)])
theorem ups_self {p : ByteArray} : ¬ p ∈ upsS p := fun h => by
  have := ups_order h
  rw [ordS_refl] at this
  omega
theorem away_iff (p : ByteArray) (e : NE) : awayT p e = true ↔ ¬ e.1 = p ∧ ¬ p ∈ upsS e.1 := by
  unfold Go.Proofs.YtlfeeiloijmagaaGreatDoor.awayT
  rw [Bool.and_eq_true, Bool.not_eq_true', Bool.not_eq_true', decide_eq_false_iff_not, ← inS_iff]
  simp
/-- nothing is under a path that holds says so of -/
theorem holds_not {xs : List NE} (hu : Up ordS xs) (hp : Paths xs) {p : ByteArray} (h : holdsT xs p = false) : ∀ e ∈ xs, ¬ p ∈ upsS e.1 := fun e he hq => by
  rw [holds_any xs p hu hp, List.any_eq_false] at h
  exact h e he ((inS_iff _ _).2 hq)
theorem holds_no {xs : List NE} (hu : Up ordS xs) (hp : Paths xs) {p : ByteArray} (h : ∀ e ∈ xs, ¬ p ∈ upsS e.1) : holdsT xs p = false := by
  rw [holds_any xs p hu hp, List.any_eq_false]
  exact fun e he hq => h e he ((inS_iff _ _).1 hq)
/-- what may's answer 0 says -/
theorem may_zero {xs : List NE} {p : ByteArray} {n : Nd} (h : mayT xs p n = 0) : rightL p.data.toList = true ∧ ¬ n.kind = 0 ∧ nodeR n = 0 ∧ parentT xs p = 0 ∧ (n.kind = 2 ∨ holdsT xs p = false) ∧ ((getT xs p).kind = 0 → xs.length < 500) := by
  unfold mayT at h
  cases hr : rightL p.data.toList with
  | false => rw [if_pos hr] at h; cases h
  | true =>
    rw [if_neg (by rw [hr]; simp)] at h
    by_cases h0 : n.kind = 0
    · rw [if_pos h0] at h; cases h
    · rw [if_neg h0] at h
      by_cases h1 : nodeR n = 0
      · rw [if_neg (by simpa using h1)] at h
        by_cases h2 : parentT xs p = 0
        · rw [if_neg (by simpa using h2)] at h
          by_cases h3 : ¬ n.kind = 2 ∧ holdsT xs p = true
          · rw [if_pos h3] at h; cases h
          · rw [if_neg h3] at h
            by_cases h4 : (getT xs p).kind = 0 ∧ 500 ≤ xs.length
            · rw [if_pos h4] at h; cases h
            · refine ⟨rfl, h0, h1, h2, ?_, fun hk => by have := fun hl => h4 ⟨hk, hl⟩; omega⟩
              rcases Classical.em (n.kind = 2) with hk | hk
              · exact .inl hk
              · right
                cases hh : holdsT xs p with
                | false => rfl
                | true => exact absurd ⟨hk, hh⟩ h3
        · rw [if_pos h2] at h; exact absurd h h2
      · rw [if_pos h1] at h; exact absurd h h1
theorem may_of {xs : List NE} {p : ByteArray} {n : Nd} (h1 : rightL p.data.toList = true) (h2 : ¬ n.kind = 0) (h3 : nodeR n = 0) (h4 : parentT xs p = 0) (h5 : n.kind = 2 ∨ holdsT xs p = false) (h6 : (getT xs p).kind = 0 → xs.length < 500) : mayT xs p n = 0 := by
  unfold mayT
  rw [if_neg (by rw [h1]; simp), if_neg h2, if_neg (by simpa using h3), if_neg (by simpa using h4), if_neg (by rcases h5 with h | h <;> simp [h]), if_neg (fun h => by have := h6 h.1; omega)]
theorem parentT_zero {xs : List NE} {p : ByteArray} (h : parentT xs p = 0) : parentS p = ⟨#[]⟩ ∨ (getT xs (parentS p)).kind = 2 := by
  unfold parentT at h
  by_cases h0 : parentS p = ⟨#[]⟩
  · exact .inl h0
  · rw [if_neg h0] at h
    by_cases h1 : (getT xs (parentS p)).kind = 0
    · rw [if_pos h1] at h; cases h
    · rw [if_neg h1] at h
      by_cases h2 : (getT xs (parentS p)).kind = 2
      · exact .inr h2
      · rw [if_neg h2] at h; cases h
theorem parentT_of {xs : List NE} {p : ByteArray} (h : parentS p = ⟨#[]⟩ ∨ (getT xs (parentS p)).kind = 2) : parentT xs p = 0 := by
  unfold parentT
  rcases h with h | h
  · rw [if_pos h]
  · by_cases h0 : parentS p = ⟨#[]⟩
    · rw [if_pos h0]
    · rw [if_neg h0, if_neg (by rw [h]; decide), if_pos h]
theorem TI.putN {xs : List NE} (h : TI xs) {p : ByteArray} {n : Nd} (hm : mayT xs p n = 0) : TI (putN ordS p n xs) := by
  obtain ⟨m1, m2, m3, m4, m5, _⟩ := may_zero hm
  refine ⟨put_up ordS_ord p n xs h.up, h.paths.put m1 n, fun e he => ?_, fun e he u hu => ?_⟩
  · rcases (put_iff h.up p n e).1 he with rfl | ⟨he, _⟩
    · exact ⟨m2, m3⟩
    · exact h.nod e he
  · rcases (put_iff h.up p n e).1 he with rfl | ⟨he, hep⟩
    · obtain ⟨hne, hmem, hor⟩ := ups_parent hu
      have hk : (getT xs (parentS p)).kind = 2 := (parentT_zero m4).resolve_left hne
      have hd := getT_kind h.up (p := parentS p) (by rw [hk]; decide)
      have hpp : ¬ parentS p = p := fun e => ups_self (p := p) (by rw [e] at hmem; exact hmem)
      rcases hor with rfl | hor
      · exact ⟨_, (put_iff h.up p n _).2 (.inr ⟨hd, hpp⟩), rfl, hk⟩
      · obtain ⟨d, hd1, rfl, hd3⟩ := h.par _ hd u hor
        exact ⟨d, (put_iff h.up p n _).2 (.inr ⟨hd1, fun e => ups_self (e ▸ hu : p ∈ upsS p)⟩), rfl, hd3⟩
    · obtain ⟨d, hd1, rfl, hd3⟩ := h.par e he u hu
      by_cases hdp : d.1 = p
      · rcases m5 with hk | hh
        · exact ⟨(p, n), (put_iff h.up p n _).2 (.inl rfl), hdp.symm, hk⟩
        · exact absurd (hdp ▸ hu) (holds_not h.up h.paths hh e he)
      · exact ⟨d, (put_iff h.up p n _).2 (.inr ⟨hd1, hdp⟩), rfl, hd3⟩
theorem TI.putT {xs : List NE} (h : TI xs) (p : ByteArray) (n : Nd) : TI (putT xs p n) := by
  unfold Sw.putT
  split
  · rename_i hm; exact h.putN hm
  · exact h
theorem TI.dropT {xs : List NE} (h : TI xs) (p : ByteArray) : TI (dropT xs p) := by
  unfold Sw.dropT
  split
  · rename_i hm
    have hh : holdsT xs p = false := by
      unfold whyDrop at hm
      cases hh : holdsT xs p with
      | false => rfl
      | true =>
        by_cases h0 : (getT xs p).kind = 0
        · rw [if_pos h0] at hm; cases hm
        · rw [if_neg h0, if_pos hh] at hm; cases hm
    refine ⟨drop_up ordS_ord p xs h.up, fun e he => h.paths e ((drop_iff h.up p e).1 he).1, fun e he => h.nod e ((drop_iff h.up p e).1 he).1, fun e he u hu => ?_⟩
    obtain ⟨d, hd1, rfl, hd3⟩ := h.par e ((drop_iff h.up p e).1 he).1 u hu
    refine ⟨d, (drop_iff h.up p d).2 ⟨hd1, fun e' => ?_⟩, rfl, hd3⟩
    exact holds_not h.up h.paths hh e ((drop_iff h.up p e).1 he).1 (e' ▸ hu)
  · exact h
theorem Up.filter {xs : List NE} (h : Up ordS xs) (f : NE → Bool) : Up ordS (xs.filter f) := List.Pairwise.filter f h
theorem TI.away {xs : List NE} (h : TI xs) (p : ByteArray) : TI (xs.filter (awayT p)) := by
  refine ⟨h.up.filter _, fun e he => h.paths e (List.mem_filter.1 he).1, fun e he => h.nod e (List.mem_filter.1 he).1, fun e he u hu => ?_⟩
  obtain ⟨he, ha⟩ := List.mem_filter.1 he
  obtain ⟨h1, h2⟩ := (away_iff p e).1 ha
  obtain ⟨d, hd1, rfl, hd3⟩ := h.par e he u hu
  exact ⟨d, List.mem_filter.2 ⟨hd1, (away_iff p d).2 ⟨fun e' => h2 (e' ▸ hu), fun hq => h2 (ups_trans hq hu)⟩⟩, rfl, hd3⟩
/-- a row without the keys of another one -/
def cutT (xs R : List NE) : List NE := xs.filter fun e => !R.any fun r => decide (r.1 = e.1)
theorem cut_iff (xs R : List NE) (e : NE) : e ∈ cutT xs R ↔ e ∈ xs ∧ ∀ r ∈ R, ¬ r.1 = e.1 := by
  unfold cutT
  rw [List.mem_filter]
  simp
theorem und_iff (p : ByteArray) (xs : List NE) (e : NE) : e ∈ undT p xs ↔ e ∈ xs ∧ (e.1 = p ∨ p ∈ upsS e.1) := by
  unfold Go.Proofs.YtlfeeiloijmagaaGreatDoor.undT
  rw [List.mem_filter, Bool.not_eq_true']
  constructor
  · rintro ⟨h1, h2⟩
    refine ⟨h1, ?_⟩
    rcases Classical.em (e.1 = p) with h | h
    · exact .inl h
    · right
      rcases Classical.em (p ∈ upsS e.1) with h' | h'
      · exact h'
      · rw [(away_iff p e).2 ⟨h, h'⟩] at h2; cases h2
  · rintro ⟨h1, h2⟩
    refine ⟨h1, ?_⟩
    cases ha : awayT p e with
    | false => rfl
    | true =>
      have := (away_iff p e).1 ha
      rcases h2 with h2 | h2
      · exact absurd h2 this.1
      · exact absurd h2 this.2
/-- what was emptied from behind -/
theorem empty_fold {xs : List NE} (h : TI xs) (p : ByteArray) : (undT p xs).reverse.foldl (fun ys e => dropT ys e.1) xs = xs.filter (awayT p) := by
  have hU : Up ordS (undT p xs) := h.up.filter _
  have key : ∀ R V : List NE, V ++ R = undT p xs → R.foldr (fun e ys => dropT ys e.1) xs = cutT xs R := by
    intro R
    induction R with
    | nil => intro V _; unfold cutT; simp; exact (List.filter_eq_self.2 fun _ _ => rfl).symm
    | cons e R ih =>
      intro V hV
      have hR := ih (V ++ [e]) (by rw [← hV]; simp)
      rw [List.foldr_cons, hR]
      have heU : e ∈ undT p xs := by rw [← hV]; simp
      have hex := (und_iff p xs e).1 heU
      have hup : Up ordS (e :: R) := by rw [← hV] at hU; exact (List.pairwise_append.1 hU).2.1
      have hC : Up ordS (cutT xs R) := h.up.filter _
      have hP : Paths (cutT xs R) := fun a ha => h.paths a ((cut_iff xs R a).1 ha).1
      have heC : e ∈ cutT xs R := (cut_iff xs R e).2 ⟨hex.1, fun r hr e' => by
        have := hup.head r hr
        rw [e', ordS_refl] at this
        omega⟩
      have hw : whyDrop (cutT xs R) e.1 = 0 := by
        unfold whyDrop
        rw [getT_in hC heC, if_neg (h.nod e hex.1).1, holds_no hC hP (fun x hx hq => ?_), if_neg (by simp)]
        obtain ⟨hx1, hx2⟩ := (cut_iff xs R x).1 hx
        have hxU : x ∈ undT p xs := (und_iff p xs x).2 ⟨hx1, .inr (by
          rcases hex.2 with h' | h'
          · rw [← h']; exact hq
          · exact ups_trans h' hq)⟩
        have ho := ups_order hq
        rw [← hV] at hxU hU
        rcases List.mem_append.1 hxU with hxV | hxR
        · have := (List.pairwise_append.1 hU).2.2 x hxV e (List.mem_cons_self ..)
          have hn := ordS_neg e.1 x.1
          omega
        · rcases List.mem_cons.1 hxR with rfl | hxR
          · rw [ordS_refl] at ho; omega
          · exact hx2 x hxR rfl
      unfold dropT
      rw [if_pos hw, drop_filter ordS_ord e.1 _ hC]
      unfold cutT
      rw [List.filter_filter]
      refine List.filter_congr fun a ha => ?_
      simp only [List.any_cons, Bool.not_or]
      congr 2
      rw [Bool.eq_iff_iff]
      simp only [decide_eq_true_eq, ordS_ord.iff]
      exact eq_comm
  rw [List.foldl_reverse]
  have := key (undT p xs) [] rfl
  rw [this]
  unfold cutT
  refine List.filter_congr fun e he => ?_
  cases ha : awayT p e with
  | true =>
    rw [Bool.not_eq_true', List.any_eq_false]
    intro r hr hk
    have hre : r = e := up_key h.up ((und_iff p xs r).1 hr).1 he (by simpa using hk)
    subst hre
    obtain ⟨h1, h2⟩ := (away_iff p r).1 ha
    rcases ((und_iff p xs r).1 hr).2 with h' | h'
    · exact h1 h'
    · exact h2 h'
  | false =>
    rw [Bool.not_eq_false', List.any_eq_true]
    refine ⟨e, List.mem_filter.2 ⟨he, by rw [ha]; rfl⟩, by simp⟩
end Sw
/- Contracts of detect.State and of the reference's State. -/
set_option linter.unusedVariables false
set_option linter.unusedSimpArgs false
namespace Sw
open Go
theorem Pr.ext_c (p q : Pr) : p = q ↔ p.kind = q.kind ∧ p.mode = q.mode ∧ p.time = q.time ∧ p.size = q.size ∧ p.sum = q.sum := by
  obtain ⟨a, b, c, d, e⟩ := p
  obtain ⟨a', b', c', d', e'⟩ := q
  simp
instance : DecidableEq Pr := fun p q => decidable_of_iff' _ (Pr.ext_c p q)
/-- what became of a node since a print -/
def stateN (was : Pr) (had : Bool) (n : Nd) : Int :=
  if had = false then (if n.kind = 0 then 0 else 1) else if was = printN n then 0 else if n.kind = 0 then 3 else 2
end Sw
namespace Go.Proofs.YtlfeeiloijmagaaGreatDoor
open Go.RowKit
open Sw
/-- the two boxes -/
def Boxes (w : World) (was : Pr) (n : Nd) (W : World) : Prop := Blk W w.heap.size 62 was.c ∧ Blk W (w.heap.size + 1) 38 n.c ∧ Below w.heap.size w W
theorem Boxes.keep {w : World} {was : Pr} {n : Nd} (W W' : World) (h : Boxes w was n W) (hb : Below W.heap.size W W') : Boxes w was n W' := ⟨h.1.below hb h.1.lt, h.2.1.below hb h.2.1.lt, h.2.2.trans (hb.mono h.2.2.size)⟩
set_option maxRecDepth 100000 in
set_option maxHeartbeats 4000000 in
theorem state_any (w : World) (was : Pr) (had : Bool) (n : Nd) (hm : n.data.size ≤ maxLen) :
    Calls Tryz.prog 73 #[.agg was.c, .bool had, .agg n.c] w fun e w' => e = .returned (.int .i64 (stateN was had n)) ∧ Below w.heap.size w w' := by
  have HP := Lib.hid (fun W => print_any W n hm)
  have hs : stateN was had n = if had = false then (if n.kind = 0 then 0 else 1) else if was = printN n then 0 else if n.kind = 0 then 3 else 2 := rfl
  have hpe := Pr.ext_c was (printN n)
  generalize printN n = p at *
  have hB0 : Boxes w was n ((w.alloc (.cells was.c 62)).alloc (.cells n.c 38)) := ⟨blk_fst _ _ _ _, blk_snd _ _ _ _, ((Below.refl _ _).alloc (Nat.le_refl _) _).alloc (by simp) _⟩
  have HB0 := Lib.hid hB0; clear hB0
  have q0 : ∀ x : Held (Boxes w was n), (HeldW x).cell? ⟨w.heap.size, 0, none⟩ = some (.int .i64 was.kind) := fun x => (HeldW_spec x).1.cell 0
  have q1 : ∀ x : Held (Boxes w was n), (HeldW x).cell? ⟨w.heap.size, 1, none⟩ = some (.int .i64 was.mode) := fun x => (HeldW_spec x).1.cell 1
  have q2 : ∀ x : Held (Boxes w was n), (HeldW x).cell? ⟨w.heap.size, 2, none⟩ = some (.int .u32 was.time) := fun x => (HeldW_spec x).1.cell 2
  have q3 : ∀ x : Held (Boxes w was n), (HeldW x).cell? ⟨w.heap.size, 3, none⟩ = some (.int .i64 was.size) := fun x => (HeldW_spec x).1.cell 3
  have q4 : ∀ x : Held (Boxes w was n), (HeldW x).cell? ⟨w.heap.size, 4, none⟩ = some (.int .u32 was.sum) := fun x => (HeldW_spec x).1.cell 4
  have n0 : ∀ x : Held (Boxes w was n), (HeldW x).cell? ⟨w.heap.size + 1, 0, none⟩ = some (.int .i64 n.kind) := fun x => (HeldW_spec x).2.1.cell 0
  have n1 : ∀ x : Held (Boxes w was n), (HeldW x).cell? ⟨w.heap.size + 1, 1, none⟩ = some (.int .i64 n.mode) := fun x => (HeldW_spec x).2.1.cell 1
  have n2 : ∀ x : Held (Boxes w was n), (HeldW x).cell? ⟨w.heap.size + 1, 2, none⟩ = some (.int .u32 n.time) := fun x => (HeldW_spec x).2.1.cell 2
  have n3 : ∀ x : Held (Boxes w was n), (HeldW x).cell? ⟨w.heap.size + 1, 3, none⟩ = some (.string n.data) := fun x => (HeldW_spec x).2.1.cell 3
  haveI : Nonempty (Held (Boxes w was n)) := held_some HB0.out
  have HPE := Lib.hid hpe; clear hpe
  have HST := Lib.hid hs; clear hs
  cases had with
  | false =>
    by_cases hk : n.kind = 0
    · have hfin : stateN was false n = 0 := by rw [HST.out, if_pos rfl, if_pos hk]
      rw [hfin]
      have hkb : (n.kind != 0) = false := by rw [bne_eq_false_iff_eq]; exact hk
      clear hfin hk
      unfold Pr.c Nd.c at *
      go_enter Tryz.func73, Tryz.ntmps73
      go_wp2_with fail
      go_quiet (fail)
      go_wp2_with fail
      go_ret
      exact ⟨rfl, below_drewN HB0.out.2.2 _⟩
    · have hfin : stateN was false n = 1 := by rw [HST.out, if_pos rfl, if_neg hk]
      rw [hfin]
      have hkb : (n.kind != 0) = true := by rw [bne_iff_ne]; exact hk
      clear hfin hk
      unfold Pr.c Nd.c at *
      go_enter Tryz.func73, Tryz.ntmps73
      go_wp2_with fail
      go_quiet (fail)
      go_wp2_with fail
      go_ret
      exact ⟨rfl, below_drewN HB0.out.2.2 _⟩
  | true =>
    by_cases hp : was = p
    · have hfin : stateN was true n = 0 := by rw [HST.out, if_neg (by simp), if_pos hp]
      rw [hfin]
      subst hp
      clear hfin HST HPE
      unfold Pr.c Nd.c at *
      go_enter Tryz.func73, Tryz.ntmps73
      go_wp2_with fail
      refine wp_region_class (Boxes w was n) (by kernel_rfl) (by kernel_rfl) (by have h := HB0.out; exact ⟨h.1, h.2.1, h.2.2.drew⟩) ?_
      repeat (go_big_quiet_step (with_reducible exact held_below Boxes.keep (HP.out _)))
      refine wpQuiet_nil ?_
      rintro _ ⟨nn, rfl⟩
      go_wp2_with fail
      go_ret
      exact ⟨rfl, (HeldW_spec nn).2.2⟩
    · have hd := HPE.out
      have hor : was.kind ≠ p.kind ∨ (was.kind = p.kind ∧ was.mode ≠ p.mode) ∨ (was.kind = p.kind ∧ was.mode = p.mode ∧ was.time ≠ p.time) ∨ (was.kind = p.kind ∧ was.mode = p.mode ∧ was.time = p.time ∧ was.size ≠ p.size) ∨ (was.kind = p.kind ∧ was.mode = p.mode ∧ was.time = p.time ∧ was.size = p.size ∧ was.sum ≠ p.sum) := by
        rw [hd] at hp
        omega
      clear hd
      obtain ⟨k2, m2, t2, z2, u2⟩ := p
      simp only at hor
      unfold Pr.c Nd.c at *
      by_cases hk : n.kind = 0
      · have hfin : stateN was true n = 3 := by rw [HST.out, if_neg (by simp), if_neg hp, if_pos hk]
        rw [hfin]
        have hkb : (n.kind != 0) = false := by rw [bne_eq_false_iff_eq]; exact hk
        clear hfin hk HST HPE hp
        rcases hor with h | ⟨rfl, h⟩ | ⟨rfl, rfl, h⟩ | ⟨rfl, rfl, rfl, h⟩ | ⟨rfl, rfl, rfl, rfl, h⟩
        all_goals
          have hb := beq_eq_false_iff_ne.2 h
          clear h
          go_enter Tryz.func73, Tryz.ntmps73
          go_wp2_with fail
          refine wp_region_class (Boxes w was n) (by kernel_rfl) (by kernel_rfl) (by have h := HB0.out; exact ⟨h.1, h.2.1, h.2.2.drew⟩) ?_
          repeat (go_big_quiet_step (with_reducible exact held_below Boxes.keep (HP.out _)))
          refine wpQuiet_nil ?_
          rintro _ ⟨nn, rfl⟩
          go_wp2_with fail
          go_ret
          exact ⟨rfl, (HeldW_spec nn).2.2⟩
      · have hfin : stateN was true n = 2 := by rw [HST.out, if_neg (by simp), if_neg hp, if_neg hk]
        rw [hfin]
        have hkb : (n.kind != 0) = true := by rw [bne_iff_ne]; exact hk
        clear hfin hk HST HPE hp
        rcases hor with h | ⟨rfl, h⟩ | ⟨rfl, rfl, h⟩ | ⟨rfl, rfl, rfl, h⟩ | ⟨rfl, rfl, rfl, rfl, h⟩
        all_goals
          have hb := beq_eq_false_iff_ne.2 h
          clear h
          go_enter Tryz.func73, Tryz.ntmps73
          go_wp2_with fail
          refine wp_region_class (Boxes w was n) (by kernel_rfl) (by kernel_rfl) (by have h := HB0.out; exact ⟨h.1, h.2.1, h.2.2.drew⟩) ?_
          repeat (go_big_quiet_step (with_reducible exact held_below Boxes.keep (HP.out _)))
          refine wpQuiet_nil ?_
          rintro _ ⟨nn, rfl⟩
          go_wp2_with fail
          go_ret
          exact ⟨rfl, (HeldW_spec nn).2.2⟩
set_option maxRecDepth 100000 in
set_option maxHeartbeats 4000000 in
theorem refState_any (w : World) (was : Pr) (had : Bool) (n : Nd) (hm : n.data.size ≤ maxLen) :
    Calls Tryz.prog 41 #[.agg was.c, .bool had, .agg n.c] w fun e w' => e = .returned (.int .i64 (stateN was had n)) ∧ Below w.heap.size w w' := by
  have HP := Lib.hid (fun W => refPrint_any W n hm)
  have hs : stateN was had n = if had = false then (if n.kind = 0 then 0 else 1) else if was = printN n then 0 else if n.kind = 0 then 3 else 2 := rfl
  have hpe := Pr.ext_c was (printN n)
  generalize printN n = p at *
  have hB0 : Boxes w was n ((w.alloc (.cells was.c 62)).alloc (.cells n.c 38)) := ⟨blk_fst _ _ _ _, blk_snd _ _ _ _, ((Below.refl _ _).alloc (Nat.le_refl _) _).alloc (by simp) _⟩
  have HB0 := Lib.hid hB0; clear hB0
  have q0 : ∀ x : Held (Boxes w was n), (HeldW x).cell? ⟨w.heap.size, 0, none⟩ = some (.int .i64 was.kind) := fun x => (HeldW_spec x).1.cell 0
  have q1 : ∀ x : Held (Boxes w was n), (HeldW x).cell? ⟨w.heap.size, 1, none⟩ = some (.int .i64 was.mode) := fun x => (HeldW_spec x).1.cell 1
  have q2 : ∀ x : Held (Boxes w was n), (HeldW x).cell? ⟨w.heap.size, 2, none⟩ = some (.int .u32 was.time) := fun x => (HeldW_spec x).1.cell 2
  have q3 : ∀ x : Held (Boxes w was n), (HeldW x).cell? ⟨w.heap.size, 3, none⟩ = some (.int .i64 was.size) := fun x => (HeldW_spec x).1.cell 3
  have q4 : ∀ x : Held (Boxes w was n), (HeldW x).cell? ⟨w.heap.size, 4, none⟩ = some (.int .u32 was.sum) := fun x => (HeldW_spec x).1.cell 4
  have n0 : ∀ x : Held (Boxes w was n), (HeldW x).cell? ⟨w.heap.size + 1, 0, none⟩ = some (.int .i64 n.kind) := fun x => (HeldW_spec x).2.1.cell 0
  have n1 : ∀ x : Held (Boxes w was n), (HeldW x).cell? ⟨w.heap.size + 1, 1, none⟩ = some (.int .i64 n.mode) := fun x => (HeldW_spec x).2.1.cell 1
  have n2 : ∀ x : Held (Boxes w was n), (HeldW x).cell? ⟨w.heap.size + 1, 2, none⟩ = some (.int .u32 n.time) := fun x => (HeldW_spec x).2.1.cell 2
  have n3 : ∀ x : Held (Boxes w was n), (HeldW x).cell? ⟨w.heap.size + 1, 3, none⟩ = some (.string n.data) := fun x => (HeldW_spec x).2.1.cell 3
  haveI : Nonempty (Held (Boxes w was n)) := held_some HB0.out
  have HPE := Lib.hid hpe; clear hpe
  have HST := Lib.hid hs; clear hs
  cases had with
  | false =>
    by_cases hk : n.kind = 0
    · have hfin : stateN was false n = 0 := by rw [HST.out, if_pos rfl, if_pos hk]
      rw [hfin]
      have hkb : (n.kind == 0) = true := by rw [beq_iff_eq]; exact hk
      clear hfin hk
      unfold Pr.c Nd.c at *
      go_enter Tryz.func41, Tryz.ntmps41
      go_wp2_with fail
      go_ret
      exact ⟨rfl, HB0.out.2.2⟩
    · have hfin : stateN was false n = 1 := by rw [HST.out, if_pos rfl, if_neg hk]
      rw [hfin]
      have hkb : (n.kind == 0) = false := by rw [beq_eq_false_iff_ne]; exact hk
      clear hfin hk
      unfold Pr.c Nd.c at *
      go_enter Tryz.func41, Tryz.ntmps41
      go_wp2_with fail
      go_ret
      exact ⟨rfl, HB0.out.2.2⟩
  | true =>
    by_cases hp : was = p
    · have hfin : stateN was true n = 0 := by rw [HST.out, if_neg (by simp), if_pos hp]
      rw [hfin]
      subst hp
      clear hfin HST HPE
      unfold Pr.c Nd.c at *
      go_enter Tryz.func41, Tryz.ntmps41
      go_wp2_with fail
      refine wp_region_class (Boxes w was n) (by kernel_rfl) (by kernel_rfl) (by have h := HB0.out; exact ⟨h.1, h.2.1, h.2.2.drew⟩) ?_
      repeat (go_big_quiet_step (with_reducible exact held_below Boxes.keep (HP.out _)))
      refine wpQuiet_nil ?_
      rintro _ ⟨nn, rfl⟩
      go_wp2_with fail
      go_ret
      exact ⟨rfl, (HeldW_spec nn).2.2⟩
    · have hd := HPE.out
      have hor : was.kind ≠ p.kind ∨ (was.kind = p.kind ∧ was.mode ≠ p.mode) ∨ (was.kind = p.kind ∧ was.mode = p.mode ∧ was.time ≠ p.time) ∨ (was.kind = p.kind ∧ was.mode = p.mode ∧ was.time = p.time ∧ was.size ≠ p.size) ∨ (was.kind = p.kind ∧ was.mode = p.mode ∧ was.time = p.time ∧ was.size = p.size ∧ was.sum ≠ p.sum) := by
        rw [hd] at hp
        omega
      clear hd
      obtain ⟨k2, m2, t2, z2, u2⟩ := p
      simp only at hor
      unfold Pr.c Nd.c at *
      by_cases hk : n.kind = 0
      · have hfin : stateN was true n = 3 := by rw [HST.out, if_neg (by simp), if_neg hp, if_pos hk]
        rw [hfin]
        have hkb : (n.kind == 0) = true := by rw [beq_iff_eq]; exact hk
        clear hfin hk HST HPE hp
        rcases hor with h | ⟨rfl, h⟩ | ⟨rfl, rfl, h⟩ | ⟨rfl, rfl, rfl, h⟩ | ⟨rfl, rfl, rfl, rfl, h⟩
        all_goals
          have hb := beq_eq_false_iff_ne.2 h
          clear h
          go_enter Tryz.func41, Tryz.ntmps41
          go_wp2_with fail
          refine wp_region_class (Boxes w was n) (by kernel_rfl) (by kernel_rfl) (by have h := HB0.out; exact ⟨h.1, h.2.1, h.2.2.drew⟩) ?_
          repeat (go_big_quiet_step (with_reducible exact held_below Boxes.keep (HP.out _)))
          refine wpQuiet_nil ?_
          rintro _ ⟨nn, rfl⟩
          go_wp2_with fail
          go_ret
          exact ⟨rfl, (HeldW_spec nn).2.2⟩
      · have hfin : stateN was true n = 2 := by rw [HST.out, if_neg (by simp), if_neg hp, if_neg hk]
        rw [hfin]
        have hkb : (n.kind == 0) = false := by rw [beq_eq_false_iff_ne]; exact hk
        clear hfin hk HST HPE hp
        rcases hor with h | ⟨rfl, h⟩ | ⟨rfl, rfl, h⟩ | ⟨rfl, rfl, rfl, h⟩ | ⟨rfl, rfl, rfl, rfl, h⟩
        all_goals
          have hb := beq_eq_false_iff_ne.2 h
          clear h
          go_enter Tryz.func41, Tryz.ntmps41
          go_wp2_with fail
          refine wp_region_class (Boxes w was n) (by kernel_rfl) (by kernel_rfl) (by have h := HB0.out; exact ⟨h.1, h.2.1, h.2.2.drew⟩) ?_
          repeat (go_big_quiet_step (with_reducible exact held_below Boxes.keep (HP.out _)))
          refine wpQuiet_nil ?_
          rintro _ ⟨nn, rfl⟩
          go_wp2_with fail
          go_ret
          exact ⟨rfl, (HeldW_spec nn).2.2⟩
end Go.Proofs.YtlfeeiloijmagaaGreatDoor
