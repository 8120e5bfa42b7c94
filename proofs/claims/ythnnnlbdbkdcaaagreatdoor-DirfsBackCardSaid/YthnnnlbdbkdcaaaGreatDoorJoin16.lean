/- Several texts, joined for the limit of sixty files; each one opens with its own comment. -/
import Derived.Test.YthnnnlbdbkdcaaaGreatDoorJoin12
import Derived.Test.YthnnnlbdbkdcaaaGreatDoorJoin11
import Derived.Test.YthnnnlbdbkdcaaaGreatDoorJoin10
/- A tree's rows: what always holds of them, and what a path's clearing leaves; plain. -/
set_option linter.unusedVariables false
set_option linter.unusedSimpArgs false
namespace Sw
open Go
open Go.Proofs.YthnnnlbdbkdcaaaGreatDoor (partsS awayT undT)
/-- what holds of a tree's entries -/
structure TI (xs : List NE) : Prop where
  up : Up ordS xs
  paths : Paths xs
  nod : ∀ e ∈ xs, ¬ e.2.kind = 0 ∧ nodeR e.2 = 0
  par : ∀ e ∈ xs, ∀ u ∈ upsS e.1, ∃ d ∈ xs, d.1 = u ∧ d.2.kind = 2
theorem TI.nil : TI [] := ⟨List.Pairwise.nil, fun _ h => absurd h (by simp), fun _ h => absurd h (by simp), fun _ h => absurd h (by simp)⟩
theorem up_key {xs : List NE} (hu : Up ordS xs) {a b : NE} (ha : a ∈ xs) (hb : b ∈ xs) (h : a.1 = b.1) : a = b := by
  induction xs with
  | nil => cases ha
  | cons x xs ih =>
    have hself : ∀ y ∈ xs, ¬ y.1 = x.1 := fun y hy e => by
      have := hu.head y hy
      rw [e, ordS_refl] at this
      omega
    rcases List.mem_cons.1 ha with rfl | ha
    · rcases List.mem_cons.1 hb with rfl | hb
      · rfl
      · exact absurd h.symm (hself b hb)
    · rcases List.mem_cons.1 hb with hbx | hb
      · exact absurd (h.trans (by rw [hbx])) (hself _ ha)
      · exact ih hu.tail ha hb
theorem getT_in {xs : List NE} (hu : Up ordS xs) {e : NE} (h : e ∈ xs) : getT xs e.1 = e.2 := by
  unfold getT
  rw [get_find ordS_ord e.1 xs hu]
  cases hf : xs.find? (fun x => decide (ordS x.1 e.1 = 0)) with
  | none =>
    have := List.find?_eq_none.1 hf e h
    simp [ordS_refl] at this
  | some x =>
    have h0 : ordS x.1 e.1 = 0 := by have := List.find?_some hf; simpa using this
    rw [up_key hu (List.mem_of_find?_eq_some hf) h (ordS_zero h0)]
    rfl
theorem getT_out {xs : List NE} (hu : Up ordS xs) {p : ByteArray} (h : ∀ e ∈ xs, ¬ e.1 = p) : getT xs p = ndZ := by
  unfold getT
  rw [get_find ordS_ord p xs hu, List.find?_eq_none.2 (fun e he => by have := h e he; simp [ordS_ord.iff, this])]
  rfl
theorem getT_kind {xs : List NE} (hu : Up ordS xs) {p : ByteArray} (h : ¬ (getT xs p).kind = 0) : (p, getT xs p) ∈ xs := by
  rcases Classical.em (∃ e ∈ xs, e.1 = p) with ⟨e, he, rfl⟩ | hn
  · rw [getT_in hu he]; exact he
  · rw [getT_out hu (fun e he h => hn ⟨e, he, h⟩)] at h
    exact absurd rfl h
theorem put_iff {xs : List NE} (hu : Up ordS xs) (p : ByteArray) (n : Nd) (e : NE) : e ∈ putN ordS p n xs ↔ e = (p, n) ∨ (e ∈ xs ∧ ¬ e.1 = p) := by
  rw [put_filter ordS_ord p n xs hu]
  simp only [List.mem_append, List.mem_filter, List.mem_cons, decide_eq_true_eq]
  have h3 := ordS_three e.1 p
  constructor
  · rintro (⟨h, hk⟩ | rfl | ⟨h, hk⟩)
    · exact .inr ⟨h, fun e' => by rw [e', ordS_refl] at hk; omega⟩
    · exact .inl rfl
    · exact .inr ⟨h, fun e' => by rw [e', ordS_refl] at hk; omega⟩
  · rintro (rfl | ⟨h, hk⟩)
    · exact .inr (.inl rfl)
    · rcases h3 with h3 | h3 | h3
      · exact .inl ⟨h, by omega⟩
      · exact absurd (ordS_zero h3) hk
      · exact .inr (.inr ⟨h, by omega⟩)
theorem drop_iff {xs : List NE} (hu : Up ordS xs) (p : ByteArray) (e : NE) : e ∈ dropN ordS p xs ↔ e ∈ xs ∧ ¬ e.1 = p := by
  rw [drop_filter ordS_ord p xs hu]
  simp [List.mem_filter, ordS_ord.iff]
/-- the ups of a path: its parent, and the parent's -/
theorem ups_parent {p u : ByteArray} (h : u ∈ upsS p) : ¬ parentS p = ⟨#[]⟩ ∧ parentS p ∈ upsS p ∧ (u = parentS p ∨ u ∈ upsS (parentS p)) := by
  rcases parent_last p with ⟨h0, _⟩ | ⟨hne, hl, hp⟩
  · rw [h0] at h; cases h
  · have hmem : parentS p ∈ upsS p := by rw [← hl]; exact List.getLast_mem hne
    refine ⟨hp, hmem, ?_⟩
    obtain ⟨k, hk1, hk2, hk3, hkr⟩ := ups_mem h
    obtain ⟨m, hm1, hm2, hm3, hmr⟩ := ups_mem hmem
    have hlen := upsS_len p
    have hm : partsS (parentS p) = (partsS p).take ((partsS p).length - 1) := by
      rw [← hl, List.getLast_eq_getElem]
      have hlt : (upsS p).length - 1 < (upsS p).length := by have := List.length_pos_iff.2 hne; omega
      have := ups_step p ((upsS p).length - 1) hlt
      rw [upsS_at p _ hlt]
      have hr : rightL p.data.toList = true := by
        cases hr : rightL p.data.toList with
        | true => rfl
        | false => rw [partsS_not hr] at hk2; simp at hk2
      rw [show (upsS p).length - 1 + 1 = (partsS p).length - 1 by have := List.length_pos_iff.2 hne; omega]
      rw [partsS_right hr] at hk2 ⊢
      have ht := right_take hr ((spS p).length - 1) (by omega)
      rw [partsS_right (by rw [data_mkB]; exact ht.1)]
      exact ht.2
    by_cases hkk : k = (partsS p).length - 1
    · left
      refine parts_inj (by rw [hk3, hm, hkk]) (by rw [hk3, List.length_take]; omega)
    · right
      refine ups_of (k := k) hk1 (by rw [hm, List.length_take]; omega) ?_
      rw [hk3, hm, List.take_take, Nat.min_eq_left (by omega)]
theorem ups_trans {u v p : ByteArray} (h1 : u ∈ upsS v) (h2 : v ∈ upsS p) : u ∈ upsS p := by
  obtain ⟨k, hk1, hk2, hk3, _⟩ := ups_mem h1
  obtain ⟨m, hm1, hm2, hm3, _⟩ := ups_mem h2
  rw [hm3, List.length_take] at hk2
  exact ups_of (k := k) hk1 (by omega) (by rw [hk3, hm3, List.take_take, Nat.min_eq_left (by omega)])
theorem ups_self {p : ByteArray} : ¬ p ∈ upsS p := fun h => by
  have := ups_order h
  rw [ordS_refl] at this
  omega
theorem away_iff (p : ByteArray) (e : NE) : awayT p e = true ↔ ¬ e.1 = p ∧ ¬ p ∈ upsS e.1 := by
  unfold Go.Proofs.YthnnnlbdbkdcaaaGreatDoor.awayT
  rw [Bool.and_eq_true, Bool.not_eq_true', Bool.not_eq_true', decide_eq_false_iff_not, ← inS_iff]
  simp
/-- nothing is under a path that holds says so of -/
theorem holds_not {xs : List NE} (hu : Up ordS xs) (hp : Paths xs) {p : ByteArray} (h : holdsT xs p = false) : ∀ e ∈ xs, ¬ p ∈ upsS e.1 := fun e he hq => by
  rw [holds_any xs p hu hp, List.any_eq_false] at h
  exact h e he ((inS_iff _ _).2 hq)
theorem holds_no {xs : List NE} (hu : Up ordS xs) (hp : Paths xs) {p : ByteArray} (h : ∀ e ∈ xs, ¬ p ∈ upsS e.1) : holdsT xs p = false := by
  rw [holds_any xs p hu hp, List.any_eq_false]
  exact fun e he hq => h e he ((inS_iff _ _).1 hq)
/-- what may's answer 0 says -/
theorem may_zero {xs : List NE} {p : ByteArray} {n : Nd} (h : mayT xs p n = 0) : rightL p.data.toList = true ∧ ¬ n.kind = 0 ∧ nodeR n = 0 ∧ parentT xs p = 0 ∧ (n.kind = 2 ∨ holdsT xs p = false) ∧ ((getT xs p).kind = 0 → xs.length < 500) := by
  unfold mayT at h
  cases hr : rightL p.data.toList with
  | false => rw [if_pos hr] at h; cases h
  | true =>
    rw [if_neg (by rw [hr]; simp)] at h
    by_cases h0 : n.kind = 0
    · rw [if_pos h0] at h; cases h
    · rw [if_neg h0] at h
      by_cases h1 : nodeR n = 0
      · rw [if_neg (by simpa using h1)] at h
        by_cases h2 : parentT xs p = 0
        · rw [if_neg (by simpa using h2)] at h
          by_cases h3 : ¬ n.kind = 2 ∧ holdsT xs p = true
          · rw [if_pos h3] at h; cases h
          · rw [if_neg h3] at h
            by_cases h4 : (getT xs p).kind = 0 ∧ 500 ≤ xs.length
            · rw [if_pos h4] at h; cases h
            · refine ⟨rfl, h0, h1, h2, ?_, fun hk => by have := fun hl => h4 ⟨hk, hl⟩; omega⟩
              rcases Classical.em (n.kind = 2) with hk | hk
              · exact .inl hk
              · right
                cases hh : holdsT xs p with
                | false => rfl
                | true => exact absurd ⟨hk, hh⟩ h3
        · rw [if_pos h2] at h; exact absurd h h2
      · rw [if_pos h1] at h; exact absurd h h1
theorem may_of {xs : List NE} {p : ByteArray} {n : Nd} (h1 : rightL p.data.toList = true) (h2 : ¬ n.kind = 0) (h3 : nodeR n = 0) (h4 : parentT xs p = 0) (h5 : n.kind = 2 ∨ holdsT xs p = false) (h6 : (getT xs p).kind = 0 → xs.length < 500) : mayT xs p n = 0 := by
  unfold mayT
  rw [if_neg (by rw [h1]; simp), if_neg h2, if_neg (by simpa using h3), if_neg (by simpa using h4), if_neg (by rcases h5 with h | h <;> simp [h]), if_neg (fun h => by have := h6 h.1; omega)]
theorem parentT_zero {xs : List NE} {p : ByteArray} (h : parentT xs p = 0) : parentS p = ⟨#[]⟩ ∨ (getT xs (parentS p)).kind = 2 := by
  unfold parentT at h
  by_cases h0 : parentS p = ⟨#[]⟩
  · exact .inl h0
  · rw [if_neg h0] at h
    by_cases h1 : (getT xs (parentS p)).kind = 0
    · rw [if_pos h1] at h; cases h
    · rw [if_neg h1] at h
      by_cases h2 : (getT xs (parentS p)).kind = 2
      · exact .inr h2
      · rw [if_neg h2] at h; cases h
theorem parentT_of {xs : List NE} {p : ByteArray} (h : parentS p = ⟨#[]⟩ ∨ (getT xs (parentS p)).kind = 2) : parentT xs p = 0 := by
  unfold parentT
  rcases h with h | h
  · rw [if_pos h]
  · by_cases h0 : parentS p = ⟨#[]⟩
    · rw [if_pos h0]
    · rw [if_neg h0, if_neg (by rw [h]; decide), if_pos h]
theorem TI.putN {xs : List NE} (h : TI xs) {p : ByteArray} {n : Nd} (hm : mayT xs p n = 0) : TI (putN ordS p n xs) := by
  obtain ⟨m1, m2, m3, m4, m5, _⟩ := may_zero hm
  refine ⟨put_up ordS_ord p n xs h.up, h.paths.put m1 n, fun e he => ?_, fun e he u hu => ?_⟩
  · rcases (put_iff h.up p n e).1 he with rfl | ⟨he, _⟩
    · exact ⟨m2, m3⟩
    · exact h.nod e he
  · rcases (put_iff h.up p n e).1 he with rfl | ⟨he, hep⟩
    · obtain ⟨hne, hmem, hor⟩ := ups_parent hu
      have hk : (getT xs (parentS p)).kind = 2 := (parentT_zero m4).resolve_left hne
      have hd := getT_kind h.up (p := parentS p) (by rw [hk]; decide)
      have hpp : ¬ parentS p = p := fun e => ups_self (p := p) (by rw [e] at hmem; exact hmem)
      rcases hor with rfl | hor
      · exact ⟨_, (put_iff h.up p n _).2 (.inr ⟨hd, hpp⟩), rfl, hk⟩
      · obtain ⟨d, hd1, rfl, hd3⟩ := h.par _ hd u hor
        exact ⟨d, (put_iff h.up p n _).2 (.inr ⟨hd1, fun e => ups_self (e ▸ hu : p ∈ upsS p)⟩), rfl, hd3⟩
    · obtain ⟨d, hd1, rfl, hd3⟩ := h.par e he u hu
      by_cases hdp : d.1 = p
      · rcases m5 with hk | hh
        · exact ⟨(p, n), (put_iff h.up p n _).2 (.inl rfl), hdp.symm, hk⟩
        · exact absurd (hdp ▸ hu) (holds_not h.up h.paths hh e he)
      · exact ⟨d, (put_iff h.up p n _).2 (.inr ⟨hd1, hdp⟩), rfl, hd3⟩
theorem TI.putT {xs : List NE} (h : TI xs) (p : ByteArray) (n : Nd) : TI (putT xs p n) := by
  unfold Sw.putT
  split
  · rename_i hm; exact h.putN hm
  · exact h
theorem TI.dropT {xs : List NE} (h : TI xs) (p : ByteArray) : TI (dropT xs p) := by
  unfold Sw.dropT
  split
  · rename_i hm
    have hh : holdsT xs p = false := by
      unfold whyDrop at hm
      cases hh : holdsT xs p with
      | false => rfl
      | true =>
        by_cases h0 : (getT xs p).kind = 0
        · rw [if_pos h0] at hm; cases hm
        · rw [if_neg h0, if_pos hh] at hm; cases hm
    refine ⟨drop_up ordS_ord p xs h.up, fun e he => h.paths e ((drop_iff h.up p e).1 he).1, fun e he => h.nod e ((drop_iff h.up p e).1 he).1, fun e he u hu => ?_⟩
    obtain ⟨d, hd1, rfl, hd3⟩ := h.par e ((drop_iff h.up p e).1 he).1 u hu
    refine ⟨d, (drop_iff h.up p d).2 ⟨hd1, fun e' => ?_⟩, rfl, hd3⟩
    exact holds_not h.up h.paths hh e ((drop_iff h.up p e).1 he).1 (e' ▸ hu)
  · exact h
theorem Up.filter {xs : List NE} (h : Up ordS xs) (f : NE → Bool) : Up ordS (xs.filter f) := List.Pairwise.filter f h
theorem TI.away {xs : List NE} (h : TI xs) (p : ByteArray) : TI (xs.filter (awayT p)) := by
  refine ⟨h.up.filter _, fun e he => h.paths e (List.mem_filter.1 he).1, fun e he => h.nod e (List.mem_filter.1 he).1, fun e he u hu => ?_⟩
  obtain ⟨he, ha⟩ := List.mem_filter.1 he
  obtain ⟨h1, h2⟩ := (away_iff p e).1 ha
  obtain ⟨d, hd1, rfl, hd3⟩ := h.par e he u hu
  exact ⟨d, List.mem_filter.2 ⟨hd1, (away_iff p d).2 ⟨fun e' => h2 (e' ▸ hu), fun hq => h2 (ups_trans hq hu)⟩⟩, rfl, hd3⟩
/-- a row without the keys of another one -/
def cutT (xs R : List NE) : List NE := xs.filter fun e => !R.any fun r => decide (r.1 = e.1)
theorem cut_iff (xs R : List NE) (e : NE) : e ∈ cutT xs R ↔ e ∈ xs ∧ ∀ r ∈ R, ¬ r.1 = e.1 := by
  unfold cutT
  rw [List.mem_filter]
  simp
theorem und_iff (p : ByteArray) (xs : List NE) (e : NE) : e ∈ undT p xs ↔ e ∈ xs ∧ (e.1 = p ∨ p ∈ upsS e.1) := by
  unfold Go.Proofs.YthnnnlbdbkdcaaaGreatDoor.undT
  rw [List.mem_filter, Bool.not_eq_true']
  constructor
  · rintro ⟨h1, h2⟩
    refine ⟨h1, ?_⟩
    rcases Classical.em (e.1 = p) with h | h
    · exact .inl h
    · right
      rcases Classical.em (p ∈ upsS e.1) with h' | h'
      · exact h'
      · rw [(away_iff p e).2 ⟨h, h'⟩] at h2; cases h2
  · rintro ⟨h1, h2⟩
    refine ⟨h1, ?_⟩
    cases ha : awayT p e with
    | false => rfl
    | true =>
      have := (away_iff p e).1 ha
      rcases h2 with h2 | h2
      · exact absurd h2 this.1
      · exact absurd h2 this.2
/-- what was emptied from behind -/
theorem empty_fold {xs : List NE} (h : TI xs) (p : ByteArray) : (undT p xs).reverse.foldl (fun ys e => dropT ys e.1) xs = xs.filter (awayT p) := by
  have hU : Up ordS (undT p xs) := h.up.filter _
  have key : ∀ R V : List NE, V ++ R = undT p xs → R.foldr (fun e ys => dropT ys e.1) xs = cutT xs R := by
    intro R
    induction R with
    | nil => intro V _; unfold cutT; simp; exact (List.filter_eq_self.2 fun _ _ => rfl).symm
    | cons e R ih =>
      intro V hV
      have hR := ih (V ++ [e]) (by rw [← hV]; simp)
      rw [List.foldr_cons, hR]
      have heU : e ∈ undT p xs := by rw [← hV]; simp
      have hex := (und_iff p xs e).1 heU
      have hup : Up ordS (e :: R) := by rw [← hV] at hU; exact (List.pairwise_append.1 hU).2.1
      have hC : Up ordS (cutT xs R) := h.up.filter _
      have hP : Paths (cutT xs R) := fun a ha => h.paths a ((cut_iff xs R a).1 ha).1
      have heC : e ∈ cutT xs R := (cut_iff xs R e).2 ⟨hex.1, fun r hr e' => by
        have := hup.head r hr
        rw [e', ordS_refl] at this
        omega⟩
      have hw : whyDrop (cutT xs R) e.1 = 0 := by
        unfold whyDrop
        rw [getT_in hC heC, if_neg (h.nod e hex.1).1, holds_no hC hP (fun x hx hq => ?_), if_neg (by simp)]
        obtain ⟨hx1, hx2⟩ := (cut_iff xs R x).1 hx
        have hxU : x ∈ undT p xs := (und_iff p xs x).2 ⟨hx1, .inr (by
          rcases hex.2 with h' | h'
          · rw [← h']; exact hq
          · exact ups_trans h' hq)⟩
        have ho := ups_order hq
        rw [← hV] at hxU hU
        rcases List.mem_append.1 hxU with hxV | hxR
        · have := (List.pairwise_append.1 hU).2.2 x hxV e (List.mem_cons_self ..)
          have hn := ordS_neg e.1 x.1
          omega
        · rcases List.mem_cons.1 hxR with rfl | hxR
          · rw [ordS_refl] at ho; omega
          · exact hx2 x hxR rfl
      unfold dropT
      rw [if_pos hw, drop_filter ordS_ord e.1 _ hC]
      unfold cutT
      rw [List.filter_filter]
      refine List.filter_congr fun a ha => ?_
      simp only [List.any_cons, Bool.not_or]
      congr 2
      rw [Bool.eq_iff_iff]
      simp only [decide_eq_true_eq, ordS_ord.iff]
      exact eq_comm
  rw [List.foldl_reverse]
  have := key (undT p xs) [] rfl
  rw [this]
  unfold cutT
  refine List.filter_congr fun e he => ?_
  cases ha : awayT p e with
  | true =>
    rw [Bool.not_eq_true', List.any_eq_false]
    intro r hr hk
    have hre : r = e := up_key h.up ((und_iff p xs r).1 hr).1 he (by simpa using hk)
    subst hre
    obtain ⟨h1, h2⟩ := (away_iff p r).1 ha
    rcases ((und_iff p xs r).1 hr).2 with h' | h'
    · exact h1 h'
    · exact h2 h'
  | false =>
    rw [Bool.not_eq_false', List.any_eq_true]
    refine ⟨e, List.mem_filter.2 ⟨he, by rw [ha]; rfl⟩, by simp⟩
end Sw
/- A path that is renamed: plain. -/
set_option linter.unusedVariables false
set_option linter.unusedSimpArgs false
namespace Sw
open Go
open Go.Proofs.YthnnnlbdbkdcaaaGreatDoor (partsS awayT undT)
theorem jnL_append : ∀ (a b : List (List UInt8)), a ≠ [] → b ≠ [] → jnL (a ++ b) = jnL a ++ 47 :: jnL b
  | [], _, h, _ => absurd rfl h
  | [x], b, _, hb => by
    rw [List.singleton_append, jnL_cons x b hb]
    rfl
  | x :: y :: a, b, _, hb => by
    rw [List.cons_append, jnL_cons x ((y :: a) ++ b) (by simp), jnL_append (y :: a) b (by simp) hb, jnL_cons x (y :: a) (by simp), List.append_assoc]
    rfl
theorem datL_spS (s : ByteArray) : datL (spS s) = spL s.data.toList := by
  unfold spS datL
  rw [List.map_map]
  conv => rhs; rw [← List.map_id (spL s.data.toList)]
  refine List.map_congr_left fun x _ => ?_
  exact data_mkB x
theorem spS_sl (s : ByteArray) : ∀ x ∈ datL (spS s), (47 : UInt8) ∉ x := by rw [datL_spS]; exact spL_no _
theorem datL_app (a b : List ByteArray) : datL (a ++ b) = datL a ++ datL b := by unfold datL; rw [List.map_append]
theorem datL_ne {l : List ByteArray} (h : l ≠ []) : datL l ≠ [] := by
  intro e
  exact h (List.map_eq_nil_iff.1 (show l.map _ = [] from e))
/-- the parts of a text of some bytes -/
theorem spS_of {s : ByteArray} {l : List ByteArray} (h : l ≠ []) (hn : ∀ x ∈ datL l, (47 : UInt8) ∉ x) (hs : s.data.toList = jnL (datL l)) : spS s = l := by
  have h1 : datL (spS s) = datL l := by rw [datL_spS, hs, spL_jnL _ (datL_ne h) hn]
  have hinj : ∀ a b : List ByteArray, datL a = datL b → a = b := by
    intro a
    induction a with
    | nil => intro b hb; cases b with
      | nil => rfl
      | cons y b => cases hb
    | cons x a ih => intro b hb; cases b with
      | nil => cases hb
      | cons y b =>
        have h0 := List.cons.inj (show x.data.toList :: datL a = y.data.toList :: datL b from hb)
        rw [dat_inj h0.1, ih b h0.2]
  exact hinj _ _ h1
/-- what is renamed of a path -/
def mvS (fr tt q : ByteArray) : ByteArray := if q = fr ∨ inS (upsS q) fr = true then tt ++ q.extract fr.size q.size else q
theorem mv_at {fr tt q : ByteArray} (h : q = fr ∨ fr ∈ upsS q) : mvS fr tt q = tt ++ q.extract fr.size q.size := by
  unfold mvS
  rw [if_pos (h.imp id (inS_iff _ _).2)]
theorem mv_away {fr tt q : ByteArray} (h : ¬ q = fr) (h2 : ¬ fr ∈ upsS q) : mvS fr tt q = q := by
  unfold mvS
  rw [if_neg (fun h' => h'.elim h (fun h3 => h2 ((inS_iff _ _).1 h3)))]
theorem right_of_ups {q u : ByteArray} (h : u ∈ upsS q) : rightL q.data.toList = true := by
  obtain ⟨k, h1, h2, _, _⟩ := ups_mem h
  cases hr : rightL q.data.toList with
  | true => rfl
  | false => rw [partsS_not hr] at h2; simp at h2
theorem ups_take {q u : ByteArray} (h : u ∈ upsS q) : (spS u).length < (spS q).length ∧ spS u = (spS q).take (spS u).length := by
  obtain ⟨k, h1, h2, h3, h4⟩ := ups_mem h
  have hr := right_of_ups h
  rw [partsS_right h4, partsS_right hr] at h3
  rw [partsS_right hr] at h2
  have hl : (spS u).length = k := by rw [h3, List.length_take]; omega
  exact ⟨by omega, by rw [hl]; exact h3⟩
theorem app_data (a b : ByteArray) : (a ++ b).data.toList = a.data.toList ++ b.data.toList := by simp
/-- the parts of a path that was renamed -/
theorem mv_parts {fr tt q : ByteArray} (h : q = fr ∨ fr ∈ upsS q) : spS (mvS fr tt q) = spS tt ++ (spS q).drop (spS fr).length := by
  rw [mv_at h]
  rcases h with rfl | h
  · have e : q.extract q.size q.size = ⟨#[]⟩ := dat_inj (by rw [ext_drop]; simp)
    rw [e, List.drop_length, List.append_nil]
    congr 1
    exact dat_inj (by rw [app_data]; simp)
  · obtain ⟨hlt, htk⟩ := ups_take h
    have hne : (spS q).drop (spS fr).length ≠ [] := fun e => by have := congrArg List.length e; simp at this; omega
    have hq : q.data.toList = fr.data.toList ++ 47 :: jnL (datL ((spS q).drop (spS fr).length)) := by
      have h1 : jnL (datL (spS q)) = q.data.toList := by rw [datL_spS, jnL_spL]
      have h2 : jnL (datL (spS fr)) = fr.data.toList := by rw [datL_spS, jnL_spL]
      rw [← h1, ← h2]
      conv => lhs; rw [← List.take_append_drop (spS fr).length (spS q)]
      rw [datL_app, ← htk, jnL_append _ _ (datL_ne (spS_ne fr)) (datL_ne hne)]
    refine spS_of (by simp [spS_ne]) (fun x hx => ?_) ?_
    · rw [datL_app] at hx
      rcases List.mem_append.1 hx with hx | hx
      · exact spS_sl tt x hx
      · refine spS_sl q x ?_
        obtain ⟨y, hy, rfl⟩ := List.mem_map.1 (show x ∈ ((spS q).drop (spS fr).length).map _ from hx)
        exact List.mem_map.2 ⟨y, List.mem_of_mem_drop hy, rfl⟩
    · rw [app_data, ext_drop, hq]
      have hfs : fr.size = fr.data.toList.length := by simp
      rw [hfs, List.drop_left, datL_app, jnL_append _ _ (datL_ne (spS_ne tt)) (datL_ne hne)]
      congr 1
      rw [datL_spS, jnL_spL]
theorem mv_self (fr tt : ByteArray) : mvS fr tt fr = tt := by
  rw [mv_at (.inl rfl)]
  have e : fr.extract fr.size fr.size = ⟨#[]⟩ := dat_inj (by rw [ext_drop]; simp)
  rw [e]
  exact dat_inj (by rw [app_data]; simp)
theorem spS_inj {a b : ByteArray} (h : spS a = spS b) : a = b := dat_inj (by
  rw [← jnL_spL a.data.toList, ← jnL_spL b.data.toList, ← datL_spS, ← datL_spS, h])
/-- the parts of what is at a path or under it -/
theorem at_take {fr q : ByteArray} (h : q = fr ∨ fr ∈ upsS q) : spS q = spS fr ++ (spS q).drop (spS fr).length := by
  rcases h with rfl | h
  · rw [List.drop_length, List.append_nil]
  · conv => lhs; rw [← List.take_append_drop (spS fr).length (spS q)]
    rw [← (ups_take h).2]
theorem mv_inj {fr tt q r : ByteArray} (hq : q = fr ∨ fr ∈ upsS q) (hr : r = fr ∨ fr ∈ upsS r) (h : mvS fr tt q = mvS fr tt r) : q = r := by
  have h1 := congrArg spS h
  rw [mv_parts hq, mv_parts hr, List.append_cancel_left_eq] at h1
  exact spS_inj (by rw [at_take hq, at_take hr, h1])
theorem ups_iff {u q : ByteArray} (hu : rightL u.data.toList = true) (hq : rightL q.data.toList = true) : u ∈ upsS q ↔ (spS u).length < (spS q).length ∧ spS u = (spS q).take (spS u).length := by
  refine ⟨ups_take, fun h => ?_⟩
  have h0 : 0 < (spS u).length := List.length_pos_iff.2 (spS_ne u)
  exact ups_of (k := (spS u).length) h0 (by rw [partsS_right hq]; exact h.1) (by rw [partsS_right hu, partsS_right hq]; exact h.2)
/-- renamed, a path is at the new place or under it -/
theorem mv_under {fr tt q : ByteArray} (h : q = fr ∨ fr ∈ upsS q) (ht : rightL tt.data.toList = true) (hm : rightL (mvS fr tt q).data.toList = true) : mvS fr tt q = tt ∨ tt ∈ upsS (mvS fr tt q) := by
  rcases h with rfl | h
  · exact .inl (mv_self _ _)
  · right
    rw [ups_iff ht hm, mv_parts (.inr h)]
    have := (ups_take h).1
    exact ⟨by simp; omega, by rw [List.take_left]⟩
theorem mv_ups {fr tt q r : ByteArray} (hq : q = fr ∨ fr ∈ upsS q) (hr : r = fr ∨ fr ∈ upsS r) (q1 : rightL q.data.toList = true) (r1 : rightL r.data.toList = true) (q2 : rightL (mvS fr tt q).data.toList = true) (r2 : rightL (mvS fr tt r).data.toList = true) :
    mvS fr tt q ∈ upsS (mvS fr tt r) ↔ q ∈ upsS r := by
  rw [ups_iff q2 r2, ups_iff q1 r1, mv_parts hq, mv_parts hr]
  have e1 := at_take hq
  have e2 := at_take hr
  generalize (spS q).drop (spS fr).length = a at *
  generalize (spS r).drop (spS fr).length = b at *
  rw [e1, e2]
  simp only [List.length_append]
  have key : ∀ X : List ByteArray, (X ++ b).take (X.length + a.length) = X ++ b.take a.length := fun X => by
    rw [List.take_append, List.take_of_length_le (by omega), show X.length + a.length - X.length = a.length by omega]
  rw [key, key, List.append_cancel_left_eq, List.append_cancel_left_eq]
  constructor
  · rintro ⟨h1, h2⟩; exact ⟨by omega, h2⟩
  · rintro ⟨h1, h2⟩; exact ⟨by omega, h2⟩
theorem parentS_sp {p : ByteArray} (h : rightL p.data.toList = true) : parentS p = mkB (jnL (datL (spS p).dropLast)) := by
  unfold parentS
  rw [partsS_right h]
theorem spS_parent {p : ByteArray} (h : rightL p.data.toList = true) (h2 : 2 ≤ (spS p).length) : spS (parentS p) = (spS p).dropLast := by
  rw [parentS_sp h]
  refine spS_of (fun e => by have := congrArg List.length e; simp at this; omega) (fun x hx => ?_) (by rw [data_mkB])
  obtain ⟨y, hy, rfl⟩ := List.mem_map.1 (show x ∈ ((spS p).dropLast).map _ from hx)
  exact spS_sl p _ (List.mem_map.2 ⟨y, List.dropLast_subset _ hy, rfl⟩)
/-- the parent of a path that was renamed -/
theorem mv_parent {fr tt q : ByteArray} (h : fr ∈ upsS q) (hm : rightL (mvS fr tt q).data.toList = true) : parentS (mvS fr tt q) = mvS fr tt (parentS q) ∧ (parentS q = fr ∨ fr ∈ upsS (parentS q)) := by
  obtain ⟨_, hpq, hor⟩ := ups_parent h
  have hor' : parentS q = fr ∨ fr ∈ upsS (parentS q) := hor.imp Eq.symm id
  refine ⟨?_, hor'⟩
  have hr := right_of_ups h
  have hl := (ups_take h).1
  have h0 : 0 < (spS fr).length := List.length_pos_iff.2 (spS_ne fr)
  have ht0 : 0 < (spS tt).length := List.length_pos_iff.2 (spS_ne tt)
  have hp2 : 2 ≤ (spS (mvS fr tt q)).length := by rw [mv_parts (.inr h)]; simp; omega
  refine spS_inj ?_
  rw [spS_parent hm hp2, mv_parts hor', spS_parent hr (by omega), mv_parts (.inr h)]
  rw [List.dropLast_append_of_ne_nil (fun e => by have := congrArg List.length e; simp at this; omega)]
  congr 1
  rw [List.dropLast_eq_take, List.dropLast_eq_take, List.length_drop, List.drop_take]
  congr 1
  omega
/-- and back -/
theorem mv_back {fr tt q : ByteArray} (h : q = fr ∨ fr ∈ upsS q) (ht : rightL tt.data.toList = true) (hm : rightL (mvS fr tt q).data.toList = true) : mvS tt fr (mvS fr tt q) = q := by
  refine spS_inj ?_
  rw [mv_parts (mv_under h ht hm), mv_parts h, List.drop_left]
  exact (at_take h).symm
end Sw
/- Renaming in a tree: plain. -/
set_option linter.unusedVariables false
set_option linter.unusedSimpArgs false
namespace Sw
open Go
open Go.Proofs.YthnnnlbdbkdcaaaGreatDoor (partsS awayT undT)
/-- an entry is put, whatever is said -/
abbrev putE (m : List NE) (e : NE) : List NE := putN ordS e.1 e.2 m
abbrev putO (m : List NE) (e : NE) : List NE := putT m e.1 e.2
theorem putAll_iff : ∀ (L base : List NE), Up ordS base → Unlike L → Up ordS (L.foldl putE base) ∧ ∀ e, e ∈ L.foldl putE base ↔ e ∈ L ∨ (e ∈ base ∧ ∀ r ∈ L, ¬ r.1 = e.1)
  | [], base, hu, _ => ⟨hu, fun e => by simp⟩
  | x :: L, base, hu, hl => by
    obtain ⟨hx, hl'⟩ := List.pairwise_cons.1 hl
    obtain ⟨h1, h2⟩ := putAll_iff L (putN ordS x.1 x.2 base) (put_up ordS_ord x.1 x.2 base hu) hl'
    refine ⟨h1, fun e => ?_⟩
    rw [List.foldl_cons, h2 e, put_iff hu]
    constructor
    · rintro (h | ⟨h | ⟨h, h'⟩, h3⟩)
      · exact .inl (List.mem_cons_of_mem _ h)
      · exact .inl (by rw [h]; exact List.mem_cons_self ..)
      · refine .inr ⟨h, fun r hr => ?_⟩
        rcases List.mem_cons.1 hr with rfl | hr
        · exact fun e' => h' e'.symm
        · exact h3 r hr
    · rintro (h | ⟨h, h3⟩)
      · rcases List.mem_cons.1 h with rfl | h
        · exact .inr ⟨.inl rfl, fun r hr e' => hx r hr e'.symm⟩
        · exact .inl h
      · exact .inr ⟨.inr ⟨h, fun e' => h3 x (List.mem_cons_self ..) e'.symm⟩, fun r hr => h3 r (List.mem_cons_of_mem _ hr)⟩
theorem putAll_fold : ∀ (L base : List NE), (∀ k (h : k < L.length), mayT ((L.take k).foldl putE base) L[k].1 L[k].2 = 0) → L.foldl putO base = L.foldl putE base
  | [], base, _ => rfl
  | x :: L, base, h => by
    have h0 : mayT base x.1 x.2 = 0 := h 0 (by simp)
    rw [List.foldl_cons, List.foldl_cons]
    have e : putO base x = putE base x := by show putT base x.1 x.2 = _; unfold putT; rw [if_pos h0]
    rw [e]
    exact putAll_fold L _ fun k hk => h (k + 1) (by simp; omega)
theorem putAll_ti : ∀ (L base : List NE), TI base → (∀ k (h : k < L.length), mayT ((L.take k).foldl putE base) L[k].1 L[k].2 = 0) → TI (L.foldl putE base)
  | [], base, h0, _ => h0
  | x :: L, base, h0, h => putAll_ti L _ (h0.putN (h 0 (by simp))) fun k hk => h (k + 1) (by simp; omega)
theorem filter_parts {α : Type} (f : α → Bool) : ∀ l : List α, (l.filter f).length + (l.filter fun x => !f x).length = l.length
  | [] => rfl
  | x :: l => by
    have := filter_parts f l
    cases h : f x <;> simp [h] <;> omega
theorem mem_before {U : List NE} (hu : Up ordS U) {d : NE} (hd : d ∈ U) (k : Nat) (hk : k < U.length) (h : ordS d.1 U[k].1 = -1) : d ∈ U.take k := by
  have hs := hd
  rw [← List.take_append_drop k U] at hs
  rcases List.mem_append.1 hs with h1 | h1
  · exact h1
  · rw [List.drop_eq_getElem_cons hk] at h1
    have hu2 : Up ordS (U[k] :: U.drop (k + 1)) := by
      rw [← List.drop_eq_getElem_cons hk]
      exact (List.pairwise_append.1 (by rw [List.take_append_drop]; exact hu : Up ordS (U.take k ++ U.drop k))).2.1
    rcases List.mem_cons.1 h1 with h1 | h1
    · rw [h1, ordS_refl] at h; omega
    · have h2 := hu2.head d h1
      have h3 := ordS_neg U[k].1 d.1
      omega
/-- an entry that is renamed -/
def mvE (fr tt : ByteArray) (e : NE) : NE := (mvS fr tt e.1, e.2)
/-- what is so where a path may be renamed -/
structure Ren (xs : List NE) (fr tt : ByteArray) : Prop where
  ti : TI xs
  len : xs.length ≤ 500
  rt : rightL tt.data.toList = true
  had : ∃ n, (fr, n) ∈ xs
  ne : ¬ fr = tt
  nu : ¬ fr ∈ upsS tt
  no : ∀ e ∈ xs, ¬ e.1 = tt
  par : parentS tt = ⟨#[]⟩ ∨ (getT xs (parentS tt)).kind = 2
  all : ∀ e ∈ undT fr xs, rightL (mvS fr tt e.1).data.toList = true
def renT (xs : List NE) (fr tt : ByteArray) : List NE := ((undT fr xs).map (mvE fr tt)).foldl putE (xs.filter (awayT fr))
section
variable {xs : List NE} {fr tt : ByteArray}
theorem Ren.under (h : Ren xs fr tt) {e : NE} (he : e ∈ xs) : ¬ (e.1 = tt ∨ tt ∈ upsS e.1) := fun hh => by
  rcases hh with hh | hh
  · exact h.no e he hh
  · obtain ⟨d, hd, h1, _⟩ := h.ti.par e he tt hh
    exact h.no d hd h1
theorem Ren.upU (h : Ren xs fr tt) : Up ordS (undT fr xs) := h.ti.up.filter _
theorem Ren.unlike (h : Ren xs fr tt) : Unlike ((undT fr xs).map (mvE fr tt)) := by
  refine List.pairwise_map.2 (List.Pairwise.imp_of_mem (fun {a b} ha hb hab => ?_) h.upU)
  intro e
  have := mv_inj ((und_iff fr xs a).1 ha).2 ((und_iff fr xs b).1 hb).2 e
  rw [this, ordS_refl] at hab
  omega
/-- what stayed has no key of what came -/
theorem Ren.apart (h : Ren xs fr tt) {x r : NE} (hx : x ∈ xs) (hr : r ∈ (undT fr xs).map (mvE fr tt)) : ¬ r.1 = x.1 := fun e => by
  obtain ⟨a, ha, rfl⟩ := List.mem_map.1 hr
  refine h.under hx ?_
  rw [← e]
  exact mv_under ((und_iff fr xs a).1 ha).2 h.rt (h.all a ha)
theorem Ren.state (h : Ren xs fr tt) (k : Nat) : Up ordS ((((undT fr xs).map (mvE fr tt)).take k).foldl putE (xs.filter (awayT fr))) ∧ ∀ e, e ∈ (((undT fr xs).map (mvE fr tt)).take k).foldl putE (xs.filter (awayT fr)) ↔ (∃ a ∈ (undT fr xs).take k, e = mvE fr tt a) ∨ e ∈ xs.filter (awayT fr) := by
  obtain ⟨h1, h2⟩ := putAll_iff (((undT fr xs).map (mvE fr tt)).take k) (xs.filter (awayT fr)) (h.ti.up.filter _) (List.Pairwise.sublist (List.take_sublist _ _) h.unlike)
  refine ⟨h1, fun e => ?_⟩
  rw [h2 e, ← List.map_take]
  constructor
  · rintro (h | ⟨h, _⟩)
    · obtain ⟨a, ha, rfl⟩ := List.mem_map.1 h; exact .inl ⟨a, ha, rfl⟩
    · exact .inr h
  · rintro (⟨a, ha, rfl⟩ | h')
    · exact .inl (List.mem_map.2 ⟨a, ha, rfl⟩)
    · refine .inr ⟨h', fun r hr => h.apart (List.mem_filter.1 h').1 ?_⟩
      obtain ⟨a, ha, rfl⟩ := List.mem_map.1 hr
      exact List.mem_map.2 ⟨a, List.mem_of_mem_take ha, rfl⟩
theorem Ren.may (h : Ren xs fr tt) (k : Nat) (hk : k < (undT fr xs).length) : mayT ((((undT fr xs).map (mvE fr tt)).take k).foldl putE (xs.filter (awayT fr))) (mvS fr tt (undT fr xs)[k].1) (undT fr xs)[k].2 = 0 := by
  obtain ⟨hS1, hS2⟩ := h.state k
  have hlen : ((((undT fr xs).map (mvE fr tt)).take k).foldl putE (xs.filter (awayT fr))).length ≤ (xs.filter (awayT fr)).length + k := by
    refine Nat.le_trans (putL_le (c := ordS) (((undT fr xs).map (mvE fr tt)).take k) (xs.filter (awayT fr))) ?_
    rw [List.length_take]
    omega
  have hpart : (xs.filter (awayT fr)).length + (undT fr xs).length = xs.length := filter_parts (awayT fr) xs
  have hx500 := h.len
  obtain ⟨S, hS⟩ : ∃ S, (((undT fr xs).map (mvE fr tt)).take k).foldl putE (xs.filter (awayT fr)) = S := ⟨_, rfl⟩
  rw [hS] at hS1 hS2 hlen
  rw [hS]
  obtain ⟨e, he⟩ : ∃ e, (undT fr xs)[k] = e := ⟨_, rfl⟩
  rw [he]
  have heU : e ∈ undT fr xs := by rw [← he]; exact List.getElem_mem hk
  obtain ⟨hex, hat⟩ := (und_iff fr xs e).1 heU
  have hq2 := h.all e heU
  have hnod := h.ti.nod e hex
  have hpS : Paths S := fun x hx => by
    rcases (hS2 x).1 hx with ⟨a, ha, rfl⟩ | hx
    · exact h.all a (List.mem_of_mem_take ha)
    · exact h.ti.paths x (List.mem_filter.1 hx).1
  refine may_of hq2 hnod.1 hnod.2 (parentT_of ?_) ?_ (fun _ => by omega)
  · rcases hat with hfe | hfe
    · rw [hfe, mv_self]
      rcases h.par with hp | hp
      · exact .inl hp
      · right
        have hd := getT_kind h.ti.up (p := parentS tt) (by rw [hp]; decide)
        have hup : ¬ parentS tt = ⟨#[]⟩ := fun e0 => by
          have := h.ti.paths _ hd
          have h0 : rightL (parentS tt).data.toList = true := this
          rw [e0] at h0
          exact absurd h0 (by decide)
        obtain ⟨_, hpm⟩ : upsS tt ≠ [] ∧ parentS tt ∈ upsS tt := by
          rcases parent_last tt with ⟨_, h0⟩ | ⟨hne, hl, _⟩
          · exact absurd h0 hup
          · exact ⟨hne, by rw [← hl]; exact List.getLast_mem hne⟩
        have hdS : (parentS tt, getT xs (parentS tt)) ∈ S := (hS2 _).2 (.inr (List.mem_filter.2 ⟨hd, (away_iff fr _).2 ⟨fun e0 => h.nu (e0 ▸ hpm), fun e0 => h.nu (ups_trans e0 hpm)⟩⟩))
        have := getT_in hS1 hdS
        rw [this]
        exact hp
    · right
      obtain ⟨hp1, hp2⟩ := mv_parent hfe hq2
      obtain ⟨_, hpm, _⟩ := ups_parent hfe
      obtain ⟨d, hd1, hd2, hd3⟩ := h.ti.par e hex _ hpm
      have hdU : d ∈ undT fr xs := (und_iff fr xs d).2 ⟨hd1, by rw [hd2]; exact hp2⟩
      have hdk : d ∈ (undT fr xs).take k := mem_before h.upU hdU k hk (by rw [he, hd2]; exact ups_order hpm)
      have hdS : mvE fr tt d ∈ S := (hS2 _).2 (.inl ⟨d, hdk, rfl⟩)
      have := getT_in hS1 hdS
      rw [hp1, ← hd2]
      have e2 : (mvE fr tt d).1 = mvS fr tt d.1 := rfl
      rw [e2] at this
      rw [this]
      exact hd3
  · rcases Classical.em (e.2.kind = 2) with hk2 | hk2
    · exact .inl hk2
    · right
      refine holds_no hS1 hpS fun x hx hq => ?_
      rcases (hS2 x).1 hx with ⟨a, ha, rfl⟩ | hx
      · have haU := List.mem_of_mem_take ha
        obtain ⟨hax, haa⟩ := (und_iff fr xs a).1 haU
        have := (mv_ups hat haa (h.ti.paths e hex) (h.ti.paths a hax) hq2 (h.all a haU)).1 hq
        obtain ⟨d, hd1, hd2, hd3⟩ := h.ti.par a hax e.1 this
        rw [up_key h.ti.up hd1 hex hd2] at hd3
        exact hk2 hd3
      · refine h.under (List.mem_filter.1 hx).1 (.inr ?_)
        rcases mv_under hat h.rt hq2 with h' | h'
        · rw [← h']; exact hq
        · exact ups_trans h' hq
/-- the tree's puts do what is wanted -/
theorem Ren.puts (h : Ren xs fr tt) : ((undT fr xs).map (mvE fr tt)).foldl putO (xs.filter (awayT fr)) = renT xs fr tt ∧ TI (renT xs fr tt) := by
  have hm : ∀ k (hk : k < ((undT fr xs).map (mvE fr tt)).length), mayT ((((undT fr xs).map (mvE fr tt)).take k).foldl putE (xs.filter (awayT fr))) ((undT fr xs).map (mvE fr tt))[k].1 ((undT fr xs).map (mvE fr tt))[k].2 = 0 := fun k hk => by
    rw [List.getElem_map]
    exact h.may k (by simpa using hk)
  exact ⟨putAll_fold _ _ hm, putAll_ti _ _ (h.ti.away fr) hm⟩
theorem Ren.mem (h : Ren xs fr tt) (e : NE) : e ∈ renT xs fr tt ↔ (∃ a ∈ undT fr xs, e = mvE fr tt a) ∨ e ∈ xs.filter (awayT fr) := by
  have := (h.state (undT fr xs).length).2 e
  rw [List.take_of_length_le (by simp), List.take_of_length_le (Nat.le_refl _)] at this
  exact this
theorem Ren.mem2 (h : Ren xs fr tt) (e : NE) : e ∈ renT xs fr tt ↔ e ∈ xs.map (mvE fr tt) := by
  rw [h.mem e, List.mem_map]
  constructor
  · rintro (⟨a, ha, rfl⟩ | hx)
    · exact ⟨a, ((und_iff fr xs a).1 ha).1, rfl⟩
    · obtain ⟨h1, h2⟩ := List.mem_filter.1 hx
      obtain ⟨h3, h4⟩ := (away_iff fr e).1 h2
      exact ⟨e, h1, by unfold mvE; rw [mv_away h3 h4]⟩
  · rintro ⟨a, ha, rfl⟩
    cases hw : awayT fr a with
    | true =>
      obtain ⟨h3, h4⟩ := (away_iff fr a).1 hw
      right
      have : mvE fr tt a = a := by unfold mvE; rw [mv_away h3 h4]
      rw [this]
      exact List.mem_filter.2 ⟨ha, hw⟩
    | false => exact .inl ⟨a, List.mem_filter.2 ⟨ha, by rw [hw]; rfl⟩, rfl⟩
theorem Ren.at (h : Ren xs fr tt) {a : NE} (ha : a ∈ xs) : (a.1 = fr ∨ fr ∈ upsS a.1) ∨ (mvS fr tt a.1 = a.1) := by
  rcases Classical.em (a.1 = fr ∨ fr ∈ upsS a.1) with h' | h'
  · exact .inl h'
  · exact .inr (mv_away (fun e => h' (.inl e)) (fun e => h' (.inr e)))
theorem Ren.inj (h : Ren xs fr tt) {a b : NE} (ha : a ∈ xs) (hb : b ∈ xs) (e : mvS fr tt a.1 = mvS fr tt b.1) : a.1 = b.1 := by
  have hall : ∀ c ∈ xs, (c.1 = fr ∨ fr ∈ upsS c.1) → mvS fr tt c.1 = tt ∨ tt ∈ upsS (mvS fr tt c.1) := fun c hc hat => mv_under hat h.rt (h.all c ((und_iff fr xs c).2 ⟨hc, hat⟩))
  rcases h.at ha with ha' | ha' <;> rcases h.at hb with hb' | hb'
  · exact mv_inj ha' hb' e
  · have := hall a ha ha'
    rw [e, hb'] at this
    exact absurd this (h.under hb)
  · have := hall b hb hb'
    rw [← e, ha'] at this
    exact absurd this (h.under ha)
  · rw [ha', hb'] at e
    exact e
theorem Ren.unlikeAll (h : Ren xs fr tt) : Unlike (xs.map (mvE fr tt)) := by
  refine List.pairwise_map.2 (List.Pairwise.imp_of_mem (fun {a b} ha hb hab => ?_) h.ti.up)
  intro e
  have := h.inj ha hb e
  rw [this, ordS_refl] at hab
  omega
/-- the reference's row is the tree's -/
theorem Ren.ref (h : Ren xs fr tt) : putL ordS (xs.map (mvE fr tt)) = renT xs fr tt := by
  obtain ⟨h1, h2, _⟩ := putL_all ordS_ord _ (xs.map (mvE fr tt)) rfl h.unlikeAll
  refine up_ext ordS_ord _ _ h1 h.puts.2.up fun e => ?_
  rw [h2 e, h.mem2 e]
theorem Ren.length (h : Ren xs fr tt) : (renT xs fr tt).length = xs.length := by
  rw [← h.ref, (putL_all ordS_ord _ (xs.map (mvE fr tt)) rfl h.unlikeAll).2.2, List.length_map]
/-- and back again -/
theorem Ren.back (h : Ren xs fr tt) : Ren (renT xs fr tt) tt fr ∧ renT (renT xs fr tt) tt fr = xs := by
  have hTI := h.puts.2
  obtain ⟨n, hn⟩ := h.had
  have hfr := h.ti.paths _ hn
  have hwas : ∀ a ∈ xs, mvS tt fr (mvS fr tt a.1) = a.1 := fun a ha => by
    rcases h.at ha with h' | h'
    · exact mv_back h' h.rt (h.all a ((und_iff fr xs a).2 ⟨ha, h'⟩))
    · rw [h', mv_away (fun e => h.no a ha e) (fun e => h.under ha (.inr e))]
  have hgone : ∀ e ∈ renT xs fr tt, ¬ (e.1 = fr ∨ fr ∈ upsS e.1) := fun e he hh => by
    rcases (h.mem e).1 he with ⟨a, ha, rfl⟩ | he
    · rcases mv_under ((und_iff fr xs a).1 ha).2 h.rt (h.all a ha) with h' | h'
      · have h'' : (mvE fr tt a).1 = tt := h'
        rw [h''] at hh
        rcases hh with hh | hh
        · exact h.ne hh.symm
        · exact h.nu hh
      · have h'' : tt ∈ upsS (mvE fr tt a).1 := h'
        rcases hh with hh | hh
        · rw [hh] at h''
          exact h.under hn (.inr h'')
        · -- both are ups of one path: one is above the other one
          obtain ⟨k1, a1, a2, a3, _⟩ := ups_mem hh
          obtain ⟨k2, b1, b2, b3, _⟩ := ups_mem h''
          rcases Nat.lt_trichotomy k1 k2 with hlt | heq | hgt
          · exact h.nu (ups_of (k := k1) a1 (by rw [b3, List.length_take]; omega) (by rw [a3, b3, List.take_take, Nat.min_eq_left (by omega)]))
          · exact h.ne (parts_inj (by rw [a3, b3, heq]) (by rw [a3, List.length_take]; omega))
          · exact h.under hn (.inr (ups_of (k := k2) b1 (by rw [a3, List.length_take]; omega) (by rw [b3, a3, List.take_take, Nat.min_eq_left (by omega)])))
    · obtain ⟨h1, h2⟩ := (away_iff fr e).1 (List.mem_filter.1 he).2
      exact hh.elim h1 h2
  have hR : Ren (renT xs fr tt) tt fr := by
    refine ⟨hTI, by rw [h.length]; exact h.len, hfr, ⟨n, (h.mem2 _).2 (List.mem_map.2 ⟨_, hn, by unfold mvE; rw [mv_self]⟩)⟩, fun e => h.ne e.symm, fun e => h.under hn (.inr e), fun e he e' => hgone e he (.inl e'), ?_, fun e he => ?_⟩
    · rcases parent_last fr with ⟨_, h0⟩ | ⟨hne, hl, h0⟩
      · exact .inl h0
      · right
        have hpm : parentS fr ∈ upsS fr := by rw [← hl]; exact List.getLast_mem hne
        obtain ⟨d, hd1, hd2, hd3⟩ := h.ti.par _ hn _ hpm
        have hdR : d ∈ renT xs fr tt := (h.mem d).2 (.inr (List.mem_filter.2 ⟨hd1, (away_iff fr d).2 ⟨fun e => ups_self (p := fr) (by rw [← hd2, e] at hpm; exact hpm), fun e => ups_self (p := fr) (by rw [hd2] at e; exact ups_trans e hpm)⟩⟩))
        rw [← hd2, getT_in hTI.up hdR]
        exact hd3
    · obtain ⟨a, ha, rfl⟩ := List.mem_map.1 ((h.mem2 e).1 ((und_iff tt _ e).1 he).1)
      have e2 : (mvE fr tt a).1 = mvS fr tt a.1 := rfl
      rw [e2, hwas a ha]
      exact h.ti.paths a ha
  refine ⟨hR, up_ext ordS_ord _ _ hR.puts.2.up h.ti.up fun e => ?_⟩
  rw [hR.mem2 e, List.mem_map]
  constructor
  · rintro ⟨b, hb, rfl⟩
    obtain ⟨a, ha, rfl⟩ := List.mem_map.1 ((h.mem2 b).1 hb)
    have : mvE tt fr (mvE fr tt a) = a := by unfold mvE; exact Prod.ext (hwas a ha) rfl
    rw [this]
    exact ha
  · intro he
    exact ⟨mvE fr tt e, (h.mem2 _).2 (List.mem_map.2 ⟨e, he, rfl⟩), by unfold mvE; exact Prod.ext (hwas e he) rfl⟩
theorem Ren.gets (h : Ren xs fr tt) : getT (renT xs fr tt) fr = ndZ ∧ getT (renT xs fr tt) tt = getT xs fr := by
  obtain ⟨n, hn⟩ := h.had
  have hb := h.back.1
  refine ⟨getT_out h.puts.2.up hb.no, ?_⟩
  have h1 : ((tt, n) : NE) ∈ renT xs fr tt := (h.mem2 _).2 (List.mem_map.2 ⟨_, hn, by unfold mvE; rw [mv_self]⟩)
  have h2 := getT_in h.puts.2.up h1
  have h3 := getT_in h.ti.up hn
  exact h2.trans h3.symm
end
end Sw
/- tree.Clone; dirfs.emptied: what is at a path and under it goes. -/
set_option linter.unusedVariables false
set_option linter.unusedSimpArgs false
namespace Go.Proofs.YthnnnlbdbkdcaaaGreatDoor
open Go Go.RowKit
open Sw
set_option maxRecDepth 100000 in
theorem treeClone_any (w : World) (bt bm : Nat) (xs : List NE) (h : TreeAt w bt bm xs) :
    Calls Tryz.prog 72 #[.pointer (some ⟨bt, 0, none⟩)] w fun e w' => ∃ bt' bm', e = .returned (.pointer (some ⟨bt', 0, none⟩)) ∧ TreeAt w' bt' bm' xs ∧ w.heap.size ≤ bt' ∧ w.heap.size ≤ bm' ∧ Below w.heap.size w w' := by
  have HN := Lib.hid (srtCloneSN_any w bm xs h.map)
  have c0 := h.box.cell 0
  simp at c0
  clear h
  go_enter Tryz.func72, Tryz.ntmps72
  go_wp2_with fail
  refine HN.out.mono ?_
  rintro e w1 ⟨bm', rfl, hm, hbm, hb1⟩
  have hba := (Below.refl w1.heap.size w1).alloc (Nat.le_refl _) (.cells #[.pointer (some ⟨bm', 0, none⟩)] 72)
  have HF := Lib.hid (And.intro (Blk.new w1 72 #[.pointer (some ⟨bm', 0, none⟩)]) (And.intro (hm.below hba) (hb1.trans (hba.mono hb1.size))))
  have hsz := hb1.size
  clear hm hb1 hba
  go_wp2_with fail
  go_ret
  exact ⟨_, bm', rfl, ⟨HF.out.1, HF.out.2.1⟩, hsz, hbm, HF.out.2.2⟩
theorem own_turn {W W' : World} {bt bm base : Nat} {xs : List NE} {v : Value} {l : List NE} (h : TreeAt W bt bm xs) (ho : OwnIt W base v l) (hg : W.grownBy W' (some bm)) : OwnIt W' base v l := by
  obtain ⟨u, hb, _⟩ := h.map.row
  exact ho.kept hg (.inr (own_ne_blk ho hb (by decide)))
theorem dropFold_len (L : List NE) : ∀ xs : List NE, (L.foldl (fun ys e => dropT ys e.1) xs).length ≤ xs.length := by
  induction L with
  | nil => intro xs; exact Nat.le_refl _
  | cons e L ih => intro xs; exact Nat.le_trans (ih _) (dropT_len xs e.1)
set_option maxRecDepth 100000 in
set_option maxHeartbeats 4000000 in
theorem emptied_any (w : World) (bt bm : Nat) (xs : List NE) (p : ByteArray) (h : TreeAt w bt bm xs) (hti : TI xs) (hn : xs.length ≤ 1000) (hp : p.size ≤ 90000) :
    Calls Tryz.prog 71 #[.pointer (some ⟨bt, 0, none⟩), .string p] w fun e w' => e = .returned (.tuple #[]) ∧ TreeAt w' bt bm (xs.filter (awayT p)) ∧ w.grownBy w' (some bm) := by
  have HU := Lib.hid (treeUnder_any w bt bm xs p h hn hp)
  have hok : ∀ e ∈ xs, e.1.size ≤ 90000 := fun e he => h.map.ok e he
  have hfold := empty_fold hti p
  obtain ⟨n, hL⟩ : ∃ n, (undT p xs).length = n := ⟨_, rfl⟩
  have hn2 : n ≤ 1000 := by rw [← hL]; exact Nat.le_trans (List.length_filter_le _ _) hn
  obtain ⟨U, hU⟩ : ∃ U, undT p xs = U := ⟨_, rfl⟩
  have hokU : ∀ e ∈ U.reverse, e.1.size ≤ 90000 := fun e he => by rw [List.mem_reverse, ← hU] at he; exact hok e (List.mem_filter.1 he).1
  rw [hU] at HU hL hfold
  have HH := Lib.hid h
  have HL := Lib.hid (And.intro hL (And.intro hfold hokU)); clear hL hfold hokU hok h hU hti
  go_enter Tryz.func71, Tryz.ntmps71
  go_wp2_with fail
  refine HU.out.mono ?_
  rintro e w1 ⟨r, rfl, ho, hb1⟩
  have HR := Lib.hid (slReverseIT_any w1 w.heap.size r n U HL.out.1 (by omega) (by have := ho; unfold OwnIt at this; rw [HL.out.1] at this; exact this))
  obtain ⟨A1, c1, rfl, _, hc1, _⟩ := SlV_of_any ho
  rw [HL.out.1] at HR
  rw [HL.out.1]
  have HB1 := Lib.hid (And.intro hb1 ho); clear hb1 ho HU
  go_wp2_with fail
  refine HR.out.mono ?_
  rintro e w2 ⟨rfl, ho2, hg2⟩
  have hb2 : Below w.heap.size w w2 := HB1.out.1.grown hg2 HB1.out.1.size (fun k hk => by rw [HL.out.1] at *; have := (HB1.out.2.lt k (by rw [HL.out.1]; exact hk)).1; exact this)
  have hO2 : OwnIt w2 w.heap.size (.slice A1 n c1) U.reverse := by unfold OwnIt; rw [List.length_reverse, HL.out.1]; exact ho2
  have H2 := Lib.hid (And.intro (HH.out.below hb2) (And.intro hO2 (grown_below hb2 : w.grownBy w2 (some bm)))); clear hb2 hO2 ho2 hg2 HB1 HR
  go_wp2_with fail
  go_loopw [14] (fun iv wr => ∃ i : Nat, i ≤ n ∧ iv = .int .i64 i ∧ TreeAt wr bt bm ((U.reverse.take i).foldl (fun ys e => dropT ys e.1) xs) ∧ OwnIt wr w.heap.size (.slice A1 n c1) U.reverse ∧ w.grownBy wr (some bm)) (fun iv _ => n - (intOf iv).toNat)
  case atStart => exact ⟨0, Nat.zero_le _, rfl, H2.out.1, H2.out.2.1, H2.out.2.2⟩
  case round =>
    obtain ⟨i, hi, rfl, ht, ho, hg⟩ := hrel
    by_cases hlt : i < n
    · have hiL : i < U.reverse.length := by rw [List.length_reverse, HL.out.1]; exact hlt
      obtain ⟨A', c', ex, -, -, hsl⟩ := ho.slv
      obtain ⟨rfl, -, rfl⟩ : A1 = A' ∧ n = U.reverse.length ∧ c1 = c' := by injection ex with a b c; exact ⟨a, b, c⟩
      obtain ⟨b, off, rfl, hbb, hcs⟩ := hsl (by omega)
      have c0 := hcs i hiL 0 (by omega)
      have c1' := hcs i hiL 1 (by omega)
      have c2 := hcs i hiL 2 (by omega)
      have c3' := hcs i hiL 3 (by omega)
      have c4 := hcs i hiL 4 (by omega)
      simp only [eCSN, List.getElem?_cons_succ, List.getElem?_cons_zero, Nat.add_zero] at c0 c1' c2 c3' c4
      clear hcs hsl ex
      have hi1 : (i : Int) < n := by omega
      have hq := HL.out.2.2 U.reverse[i] (List.getElem_mem hiL)
      have hstep : (U.reverse.take (i + 1)).foldl (fun ys e => dropT ys e.1) xs = dropT ((U.reverse.take i).foldl (fun ys e => dropT ys e.1) xs) U.reverse[i].1 := by rw [List.take_succ_eq_append_getElem hiL, List.foldl_append]; rfl
      have hlen := dropFold_len (U.reverse.take i) xs
      obtain ⟨x, hx⟩ : ∃ x, U.reverse[i] = x := ⟨_, rfl⟩
      simp only [hx] at c0 c1' c2 c3' c4 hq hstep
      clear hx
      have hba := (Below.refl wr.heap.size wr).alloc (Nat.le_refl _) (.cells #[.string x.1, .int .i64 x.2.kind, .int .i64 x.2.mode, .int .u32 x.2.time, .string x.2.data] 32)
      have htw := ht.below hba
      have how := ho.below hba
      have HD := Lib.hid (treeDrop_any _ bt bm _ x.1 htw (by omega) hq)
      have HG := Lib.hid (And.intro (grown_trans hg (grown_below hba)) (And.intro htw (And.intro how hstep)))
      clear htw how hstep hba ht ho hg hlen
      go_wp2_with fail
      refine HD.out.mono ?_
      rintro e w3 ⟨rfl, ht3, hg3⟩
      have H3 := Lib.hid (And.intro ht3 (And.intro (own_turn HG.out.2.1 HG.out.2.2.1 hg3) (grown_trans HG.out.1 hg3))); clear ht3 hg3 HD
      go_wp2_with fail
      go_roundw
      case rel => exact ⟨i + 1, by omega, by go_num, by rw [HG.out.2.2.2]; exact H3.out.1, H3.out.2.1, H3.out.2.2⟩
      case measure => simp [intOf]; omega
    · obtain rfl : i = n := by omega
      rw [List.take_of_length_le (by rw [List.length_reverse, HL.out.1]; omega), HL.out.2.1] at ht
      have HF := Lib.hid (And.intro ht hg); clear ht hg ho
      go_wp2_with fail
      go_end0
      exact ⟨rfl, HF.out.1, HF.out.2⟩
end Go.Proofs.YthnnnlbdbkdcaaaGreatDoor
/- dirfs: a live directory, its step. -/
set_option linter.unusedVariables false
set_option linter.unusedSimpArgs false
namespace Sw
/-- a live directory's state -/
structure DS where
  room : Int
  fuse : Int
  ops : Int
  off : Bool
  xs : List NE
/-- a change is done, if it may be, and there is power -/
def stepD (s : DS) (why : Int) (ys : List NE) : Int × DS :=
  if s.off = true then (10, s) else if ¬ why = 0 then (why, s) else if s.fuse = 0 then (10, { s with off := true }) else (0, { s with fuse := max (s.fuse - 1) (-1), ops := s.ops + 1, xs := ys })
structure DS.Ok (s : DS) (k : Nat) : Prop where
  f0 : -1 ≤ s.fuse
  f1 : s.fuse ≤ 9223372036854775807
  o0 : 0 ≤ s.ops
  o1 : s.ops ≤ k
theorem DS.Ok.step {s : DS} {k : Nat} (h : s.Ok k) (why : Int) (ys : List NE) : (stepD s why ys).2.Ok (k + 1) := by
  have := h.f0; have := h.f1; have := h.o0; have := h.o1
  unfold stepD
  split
  · exact ⟨h.f0, h.f1, h.o0, by simp; omega⟩
  · split
    · exact ⟨h.f0, h.f1, h.o0, by simp; omega⟩
    · split
      · exact ⟨h.f0, h.f1, h.o0, by simp; omega⟩
      · exact ⟨by simp; omega, by simp; omega, by simp; omega, by simp; omega⟩
end Sw
namespace Go.Proofs.YthnnnlbdbkdcaaaGreatDoor
open Go Go.RowKit
open Sw
theorem _root_.Go.Proofs.YthnnnlbdbkdcaaaGreatDoor.TreeAt.far {W W' : World} {bt bm g : Nat} {xs : List NE} {t : TypeId} {cs : Array Value} (h : TreeAt W bt bm xs) (hB : Blk W g t cs) (h1 : 72 ≠ t) (h2 : 96 ≠ t) (h3 : 103 ≠ t) (hg : W.grownBy W' (some g)) : TreeAt W' bt bm xs := by
  obtain ⟨v, hb, ho⟩ := h.map.row
  refine ⟨h.box.grown hg (by simpa using Blk.other h.box hB h1), ⟨v, hb.grown hg (by simpa using Blk.other hb hB h2), ho.kept hg (.inr (own_ne_blk ho hB h3))⟩, h.map.up, h.map.ok⟩
/-- a live directory in block bd, its tree in bt, the tree's map in bm -/
structure DirAt (w : World) (bd bt bm : Nat) (s : DS) : Prop where
  box : Blk w bd 88 #[.pointer (some ⟨bt, 0, none⟩), .int .i64 s.room, .int .i64 s.fuse, .bool s.off, .int .i64 s.ops]
  tree : TreeAt w bt bm s.xs
theorem DirAt.below {w w' : World} {bd bt bm : Nat} {s : DS} (h : DirAt w bd bt bm s) (hb : Below w.heap.size w w') : DirAt w' bd bt bm s := ⟨h.box.below hb h.box.lt, h.tree.below hb⟩
set_option maxRecDepth 100000 in
set_option maxHeartbeats 4000000 in
theorem step_any (w : World) (bd bt bm f : Nat) (caps : Array Value) (s : DS) (k : Nat) (why : Int) (ys : List NE) (h : DirAt w bd bt bm s) (hok : s.Ok k) (hk : k ≤ 1000) (eg : ∀ args w, (callFunc f args).run Tryz.prog w = .ok (.enter f args) w)
    (hcl : ∀ W bt' bm', Below w.heap.size w W → TreeAt W bt' bm' s.xs → w.heap.size ≤ bm' → Calls Tryz.prog f (#[.pointer (some ⟨bt', 0, none⟩)] ++ caps) W fun e w' => e = .returned (.int .i64 why) ∧ (why = 0 → TreeAt w' bt' bm' ys) ∧ W.grownBy w' (some bm')) :
    Calls Tryz.prog 65 #[.pointer (some ⟨bd, 0, none⟩), .func (.func f) #[] caps] w fun e w' => e = .returned (.int .i64 (stepD s why ys).1) ∧ (∃ bt' bm', DirAt w' bd bt' bm' (stepD s why ys).2) ∧ w.grownBy w' (some bd) := by
  obtain ⟨room, fuse, ops, off, xs⟩ := s
  have HC := Lib.hid (treeClone_any w bt bm xs h.tree)
  have hb := h.box
  have c0 := hb.cell 0
  have c2 := hb.cell 2
  have c3 := hb.cell 3
  have f3 := hb.frozen 3
  simp at c0 c2 c3
  obtain ⟨f0', f1', o0', o1'⟩ := hok
  simp only at f0' f1' o0' o1'
  have HH := Lib.hid (And.intro h hb); clear h hb
  cases off with
  | true =>
    go_enter Tryz.func65, Tryz.ntmps65
    go_wp2_with fail
    go_ret
    exact ⟨rfl, ⟨bt, bm, HH.out.1⟩, grown_refl _ _⟩
  | false =>
    have HCL := Lib.hid hcl; clear hcl
    go_enter Tryz.func65, Tryz.ntmps65
    go_wp2_with fail
    refine HC.out.mono ?_
    rintro e w1 ⟨bt', bm', rfl, ht, hbt, hbm, hb1⟩
    have hB1 := HH.out.2.below hb1 HH.out.2.lt
    have hlt := HH.out.2.lt
    have hT1 := HH.out.1.tree.below hb1
    have HCW := Lib.hid (HCL.out w1 bt' bm' hb1 ht hbm)
    have hg1 : w.grownBy w1 (some bd) := grown_below hb1
    have H1 := Lib.hid (And.intro hB1 (And.intro hT1 hg1)); clear hB1 hT1 hg1 hb1 ht HCL HC
    go_wp2_with fail
    refine HCW.out.mono ?_
    rintro e w2 ⟨rfl, ht2, hg2⟩
    have hB2 := H1.out.1.grown hg2 (by simp; omega)
    have hT2 : TreeAt w2 bt bm xs := by
      obtain ⟨v, hb, ho⟩ := HH.out.1.tree.map.row
      obtain ⟨v1, hb1, ho1⟩ := H1.out.2.1.map.row
      have hbl := hb.lt
      have hol := fun k hk => (ho.lt k hk).2
      have hxl := HH.out.1.tree.box.lt
      refine ⟨H1.out.2.1.box.grown hg2 (by simp; omega), ⟨v1, hb1.grown hg2 (by simp; omega), ho1.kept hg2 ?_⟩, H1.out.2.1.map.up, H1.out.2.1.map.ok⟩
      right
      intro he
      have hev : v1 = v := by
        have e1 := HH.out.1.tree.map
        have := H1.out.2.2.block bm hbl (by
          have := Blk.other hb HH.out.2 (by decide)
          simpa using this)
        unfold Blk at hb hb1
        rw [this, hb] at hb1
        injection hb1 with hb1
        injection hb1 with hb1
        have := congrArg (fun a : Array Value => a[1]?) hb1
        simpa using this.symm
      rw [hev] at he
      have := hol _ he
      omega
    have hg3 : w.grownBy w2 (some bd) := grown_sub H1.out.2.2 hg2 (fun g hg => by cases hg; exact hbm)
    have x0 := hB2.cell 0
    have x2 := hB2.cell 2
    have x3 := hB2.cell 3
    have x4 := hB2.cell 4
    have p0 := hB2.frozen 0
    have p2 := hB2.frozen 2
    have p3 := hB2.frozen 3
    have p4 := hB2.frozen 4
    simp at x0 x2 x3 x4
    have H2 := Lib.hid (And.intro hB2 (And.intro hT2 (And.intro hg3 ht2))); clear hB2 hT2 hg3 ht2 hg2 H1 HCW c0 c2 c3 f3
    by_cases hw : why = 0
    · by_cases hf : fuse = 0
      · have hwe : (why != 0) = false := by rw [hw]; rfl
        have hfe : (fuse == 0) = true := by rw [hf]; rfl
        have HE := Lib.hid (show stepD ⟨room, fuse, ops, false, xs⟩ why ys = (10, ⟨room, fuse, ops, true, xs⟩) from by unfold stepD; rw [if_neg (by simp), if_neg (by simpa using hw), if_pos hf])
        clear hw hf
        go_wp2_with fail
        go_ret
        rw [HE.out]
        have hgg := grown_put H2.out.2.2.1 3 (.bool true)
        exact ⟨rfl, ⟨bt, bm, by have := H2.out.1.put 3 (.bool true); simpa using this, H2.out.2.1.far H2.out.1 (by decide) (by decide) (by decide) (grown_put (grown_refl _ _) 3 _)⟩, hgg⟩
      · have hwe : (why != 0) = false := by rw [hw]; rfl
        have hfe : (fuse == 0) = false := by rw [beq_eq_false_iff_ne]; exact hf
        have hwr : IntKind.i64.wrap (fuse - 1) = fuse - 1 := IntWalk.i64_in _ (by omega)
        have hwo : IntKind.i64.wrap (ops + 1) = ops + 1 := IntWalk.i64_in _ (by omega)
        obtain ⟨F, hF⟩ : ∃ F, max (fuse - 1) (-1) = F := ⟨_, rfl⟩
        have HE := Lib.hid (show stepD ⟨room, fuse, ops, false, xs⟩ why ys = (0, ⟨room, F, ops + 1, false, ys⟩) from by unfold stepD; rw [if_neg (by simp), if_neg (by simpa using hw), if_neg hf]; simp [hF])
        have HT := Lib.hid (H2.out.2.2.2 hw)
        clear hw hf
        go_wp2_with fail
        go_ret
        rw [HE.out]
        have hgg := grown_put (grown_put (grown_put H2.out.2.2.1 2 (.int .i64 F)) 4 (.int .i64 (ops + 1))) 0 (.pointer (some ⟨bt', 0, none⟩))
        have hgl := grown_put (grown_put (grown_put (grown_refl w2 (some bd)) 2 (.int .i64 F)) 4 (.int .i64 (ops + 1))) 0 (.pointer (some ⟨bt', 0, none⟩))
        exact ⟨rfl, ⟨bt', bm', by have := ((H2.out.1.put 2 (.int .i64 F)).put 4 (.int .i64 (ops + 1))).put 0 (.pointer (some ⟨bt', 0, none⟩)); simpa using this, HT.out.far H2.out.1 (by decide) (by decide) (by decide) hgl⟩, hgg⟩
    · have hwe : (why != 0) = true := by rw [bne_iff_ne]; exact hw
      have HE := Lib.hid (show stepD ⟨room, fuse, ops, false, xs⟩ why ys = (why, ⟨room, fuse, ops, false, xs⟩) from by unfold stepD; rw [if_neg (by simp), if_pos hw])
      clear hw
      go_wp2_with fail
      go_ret
      rw [HE.out]
      exact ⟨rfl, ⟨bt, bm, H2.out.1, H2.out.2.1⟩, H2.out.2.2.1⟩
end Go.Proofs.YthnnnlbdbkdcaaaGreatDoor
