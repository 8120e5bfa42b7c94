/- Several texts, joined for the limit of sixty files; each one opens with its own comment. -/
import Derived.Test.YtjcbjocgachpjaaGreatDoorJoin30
import Derived.Test.YtjcbjocgachpjaaGreatDoorJoin14
/- Renaming in a tree: plain. -/
set_option linter.unusedVariables false
set_option linter.unusedSimpArgs false
namespace Sw
open Go
open Go.Proofs.YtjcbjocgachpjaaGreatDoor (partsS awayT undT)
/-- an entry is put, whatever is said -/
abbrev putE (m : List NE) (e : NE) : List NE := putN ordS e.1 e.2 m
abbrev putO (m : List NE) (e : NE) : List NE := putT m e.1 e.2
theorem putAll_iff : ∀ (L base : List NE), Up ordS base → Unlike L → Up ordS (L.foldl putE base) ∧ ∀ e, e ∈ L.foldl putE base ↔ e ∈ L ∨ (e ∈ base ∧ ∀ r ∈ L, ¬ r.1 = e.1)
  | [], base, hu, _ => ⟨hu, fun e => by simp⟩
  | x :: L, base, hu, hl => by
    obtain ⟨hx, hl'⟩ := List.pairwise_cons.1 hl
    obtain ⟨h1, h2⟩ := putAll_iff L (putN ordS x.1 x.2 base) (put_up ordS_ord x.1 x.2 base hu) hl'
    refine ⟨h1, fun e => ?_⟩
    rw [List.foldl_cons, h2 e, put_iff hu]
    constructor
    · rintro (h | ⟨h | ⟨h, h'⟩, h3⟩)
      · exact .inl (List.mem_cons_of_mem _ h)
      · exact .inl (by rw [h]; exact List.mem_cons_self ..)
      · refine .inr ⟨h, fun r hr => ?_⟩
        rcases List.mem_cons.1 hr with rfl | hr
        · exact fun e' => h' e'.symm
        · exact h3 r hr
    · rintro (h | ⟨h, h3⟩)
      · rcases List.mem_cons.1 h with rfl | h
        · exact .inr ⟨.inl rfl, fun r hr e' => hx r hr e'.symm⟩
        · exact .inl h
      · exact .inr ⟨.inr ⟨h, fun e' => h3 x (List.mem_cons_self ..) e'.symm⟩, fun r hr => h3 r (List.mem_cons_of_mem _ hr)⟩
theorem putAll_fold : ∀ (L base : List NE), (∀ k (h : k < L.length), mayT ((L.take k).foldl putE base) L[k].1 L[k].2 = 0) → L.foldl putO base = L.foldl putE base
  | [], base, _ => rfl
  | x :: L, base, h => by
    have h0 : mayT base x.1 x.2 = 0 := h 0 (by simp)
    rw [List.foldl_cons, List.foldl_cons]
    have e : putO base x = putE base x := by show putT base x.1 x.2 = _; unfold putT; rw [if_pos h0]
    rw [e]
    exact putAll_fold L _ fun k hk => h (k + 1) (by simp; omega)
theorem putAll_ti : ∀ (L base : List NE), TI base → (∀ k (h : k < L.length), mayT ((L.take k).foldl putE base) L[k].1 L[k].2 = 0) → TI (L.foldl putE base)
  | [], base, h0, _ => h0
  | x :: L, base, h0, h => putAll_ti L _ (h0.putN (h 0 (by simp))) fun k hk => h (k + 1) (by simp; omega)
theorem filter_parts {α : Type} (f : α → Bool) : ∀ l : List α, (l.filter f).length + (l.filter fun x => !f x).length = l.length
  | [] => rfl
  | x :: l => by
    have := filter_parts f l
    cases h : f x <;> simp [h] <;> omega
theorem mem_before {U : List NE} (hu : Up ordS U) {d : NE} (hd : d ∈ U) (k : Nat) (hk : k < U.length) (h : ordS d.1 U[k].1 = -1) : d ∈ U.take k := by
  have hs := hd
  rw [← List.take_append_drop k U] at hs
  rcases List.mem_append.1 hs with h1 | h1
  · exact h1
  · rw [List.drop_eq_getElem_cons hk] at h1
    have hu2 : Up ordS (U[k] :: U.drop (k + 1)) := by
      rw [← List.drop_eq_getElem_cons hk]
      exact (List.pairwise_append.1 (by rw [List.take_append_drop]; exact hu : Up ordS (U.take k ++ U.drop k))).2.1
    rcases List.mem_cons.1 h1 with h1 | h1
    · rw [h1, ordS_refl] at h; omega
    · have h2 := hu2.head d h1
      have h3 := ordS_neg U[k].1 d.1
      omega
/-- an entry that is renamed -/
def mvE (fr tt : ByteArray) (e : NE) : NE := (mvS fr tt e.1, e.2)
/-- what is so where a path may be renamed -/
structure Ren (xs : List NE) (fr tt : ByteArray) : Prop where
  ti : TI xs
  len : xs.length ≤ 500
  rt : rightL tt.data.toList = true
  had : ∃ n, (fr, n) ∈ xs
  ne : ¬ fr = tt
  nu : ¬ fr ∈ upsS tt
  no : ∀ e ∈ xs, ¬ e.1 = tt
  par : parentS tt = ⟨#[]⟩ ∨ (getT xs (parentS tt)).kind = 2
  all : ∀ e ∈ undT fr xs, rightL (mvS fr tt e.1).data.toList = true
def renT (xs : List NE) (fr tt : ByteArray) : List NE := ((undT fr xs).map (mvE fr tt)).foldl putE (xs.filter (awayT fr))
section
variable {xs : List NE} {fr tt : ByteArray}
theorem Ren.under (h : Ren xs fr tt) {e : NE} (he : e ∈ xs) : ¬ (e.1 = tt ∨ tt ∈ upsS e.1) := fun hh => by
  rcases hh with hh | hh
  · exact h.no e he hh
  · obtain ⟨d, hd, h1, _⟩ := h.ti.par e he tt hh
    exact h.no d hd h1
theorem Ren.upU (h : Ren xs fr tt) : Up ordS (undT fr xs) := h.ti.up.filter _
theorem Ren.unlike (h : Ren xs fr tt) : Unlike ((undT fr xs).map (mvE fr tt)) := by
  refine List.pairwise_map.2 (List.Pairwise.imp_of_mem (fun {a b} ha hb hab => ?_) h.upU)
  intro e
  have := mv_inj ((und_iff fr xs a).1 ha).2 ((und_iff fr xs b).1 hb).2 e
  rw [this, ordS_refl] at hab
  omega
/-- what stayed has no key of what came -/
theorem Ren.apart (h : Ren xs fr tt) {x r : NE} (hx : x ∈ xs) (hr : r ∈ (undT fr xs).map (mvE fr tt)) : ¬ r.1 = x.1 := fun e => by
  obtain ⟨a, ha, rfl⟩ := List.mem_map.1 hr
  refine h.under hx ?_
  rw [← e]
  exact mv_under ((und_iff fr xs a).1 ha).2 h.rt (h.all a ha)
theorem Ren.state (h : Ren xs fr tt) (k : Nat) : Up ordS ((((undT fr xs).map (mvE fr tt)).take k).foldl putE (xs.filter (awayT fr))) ∧ ∀ e, e ∈ (((undT fr xs).map (mvE fr tt)).take k).foldl putE (xs.filter (awayT fr)) ↔ (∃ a ∈ (undT fr xs).take k, e = mvE fr tt a) ∨ e ∈ xs.filter (awayT fr) := by
  obtain ⟨h1, h2⟩ := putAll_iff (((undT fr xs).map (mvE fr tt)).take k) (xs.filter (awayT fr)) (h.ti.up.filter _) (List.Pairwise.sublist (List.take_sublist _ _) h.unlike)
  refine ⟨h1, fun e => ?_⟩
  rw [h2 e, ← List.map_take]
  constructor
  · rintro (h | ⟨h, _⟩)
    · obtain ⟨a, ha, rfl⟩ := List.mem_map.1 h; exact .inl ⟨a, ha, rfl⟩
    · exact .inr h
  · rintro (⟨a, ha, rfl⟩ | h')
    · exact .inl (List.mem_map.2 ⟨a, ha, rfl⟩)
    · refine .inr ⟨h', fun r hr => h.apart (List.mem_filter.1 h').1 ?_⟩
      obtain ⟨a, ha, rfl⟩ := List.mem_map.1 hr
      exact List.mem_map.2 ⟨a, List.mem_of_mem_take ha, rfl⟩
theorem Ren.may (h : Ren xs fr tt) (k : Nat) (hk : k < (undT fr xs).length) : mayT ((((undT fr xs).map (mvE fr tt)).take k).foldl putE (xs.filter (awayT fr))) (mvS fr tt (undT fr xs)[k].1) (undT fr xs)[k].2 = 0 := by
  obtain ⟨hS1, hS2⟩ := h.state k
  have hlen : ((((undT fr xs).map (mvE fr tt)).take k).foldl putE (xs.filter (awayT fr))).length ≤ (xs.filter (awayT fr)).length + k := by
    refine Nat.le_trans (putL_le (c := ordS) (((undT fr xs).map (mvE fr tt)).take k) (xs.filter (awayT fr))) ?_
    rw [List.length_take]
    omega
  have hpart : (xs.filter (awayT fr)).length + (undT fr xs).length = xs.length := filter_parts (awayT fr) xs
  have hx500 := h.len
  obtain ⟨S, hS⟩ : ∃ S, (((undT fr xs).map (mvE fr tt)).take k).foldl putE (xs.filter (awayT fr)) = S := ⟨_, rfl⟩
  rw [hS] at hS1 hS2 hlen
  rw [hS]
  obtain ⟨e, he⟩ : ∃ e, (undT fr xs)[k] = e := ⟨_, rfl⟩
  rw [he]
  have heU : e ∈ undT fr xs := by rw [← he]; exact List.getElem_mem hk
  obtain ⟨hex, hat⟩ := (und_iff fr xs e).1 heU
  have hq2 := h.all e heU
  have hnod := h.ti.nod e hex
  have hpS : Paths S := fun x hx => by
    rcases (hS2 x).1 hx with ⟨a, ha, rfl⟩ | hx
    · exact h.all a (List.mem_of_mem_take ha)
    · exact h.ti.paths x (List.mem_filter.1 hx).1
  refine may_of hq2 hnod.1 hnod.2 (parentT_of ?_) ?_ (fun _ => by omega)
  · rcases hat with hfe | hfe
    · rw [hfe, mv_self]
      rcases h.par with hp | hp
      · exact .inl hp
      · right
        have hd := getT_kind h.ti.up (p := parentS tt) (by rw [hp]; decide)
        have hup : ¬ parentS tt = ⟨#[]⟩ := fun e0 => by
          have := h.ti.paths _ hd
          have h0 : rightL (parentS tt).data.toList = true := this
          rw [e0] at h0
          exact absurd h0 (by decide)
        obtain ⟨_, hpm⟩ : upsS tt ≠ [] ∧ parentS tt ∈ upsS tt := by
          rcases parent_last tt with ⟨_, h0⟩ | ⟨hne, hl, _⟩
          · exact absurd h0 hup
          · exact ⟨hne, by rw [← hl]; exact List.getLast_mem hne⟩
        have hdS : (parentS tt, getT xs (parentS tt)) ∈ S := (hS2 _).2 (.inr (List.mem_filter.2 ⟨hd, (away_iff fr _).2 ⟨fun e0 => h.nu (e0 ▸ hpm), fun e0 => h.nu (ups_trans e0 hpm)⟩⟩))
        have := getT_in hS1 hdS
        rw [this]
        exact hp
    · right
      obtain ⟨hp1, hp2⟩ := mv_parent hfe hq2
      obtain ⟨_, hpm, _⟩ := ups_parent hfe
      obtain ⟨d, hd1, hd2, hd3⟩ := h.ti.par e hex _ hpm
      have hdU : d ∈ undT fr xs := (und_iff fr xs d).2 ⟨hd1, by rw [hd2]; exact hp2⟩
      have hdk : d ∈ (undT fr xs).take k := mem_before h.upU hdU k hk (by rw [he, hd2]; exact ups_order hpm)
      have hdS : mvE fr tt d ∈ S := (hS2 _).2 (.inl ⟨d, hdk, rfl⟩)
      have := getT_in hS1 hdS
      rw [hp1, ← hd2]
      have e2 : (mvE fr tt d).1 = mvS fr tt d.1 := rfl
      rw [e2] at this
      rw [this]
      exact hd3
  · rcases Classical.em (e.2.kind = 2) with hk2 | hk2
    · exact .inl hk2
    · right
      refine holds_no hS1 hpS fun x hx hq => ?_
      rcases (hS2 x).1 hx with ⟨a, ha, rfl⟩ | hx
      · have haU := List.mem_of_mem_take ha
        obtain ⟨hax, haa⟩ := (und_iff fr xs a).1 haU
        have := (mv_ups hat haa (h.ti.paths e hex) (h.ti.paths a hax) hq2 (h.all a haU)).1 hq
        obtain ⟨d, hd1, hd2, hd3⟩ := h.ti.par a hax e.1 this
        rw [up_key h.ti.up hd1 hex hd2] at hd3
        exact hk2 hd3
      · refine h.under (List.mem_filter.1 hx).1 (.inr ?_)
        rcases mv_under hat h.rt hq2 with h' | h'
        · rw [← h']; exact hq
        · exact ups_trans h' hq
/-- the tree's puts do what is wanted -/
theorem Ren.puts (h : Ren xs fr tt) : ((undT fr xs).map (mvE fr tt)).foldl putO (xs.filter (awayT fr)) = renT xs fr tt ∧ TI (renT xs fr tt) := by
  have hm : ∀ k (hk : k < ((undT fr xs).map (mvE fr tt)).length), mayT ((((undT fr xs).map (mvE fr tt)).take k).foldl putE (xs.filter (awayT fr))) ((undT fr xs).map (mvE fr tt))[k].1 ((undT fr xs).map (mvE fr tt))[k].2 = 0 := fun k hk => by
    rw [List.getElem_map]
    exact h.may k (by simpa using hk)
  exact ⟨putAll_fold _ _ hm, putAll_ti _ _ (h.ti.away fr) hm⟩
theorem Ren.mem (h : Ren xs fr tt) (e : NE) : e ∈ renT xs fr tt ↔ (∃ a ∈ undT fr xs, e = mvE fr tt a) ∨ e ∈ xs.filter (awayT fr) := by
  have := (h.state (undT fr xs).length).2 e
  rw [List.take_of_length_le (by simp), List.take_of_length_le (Nat.le_refl _)] at this
  exact this
theorem Ren.mem2 (h : Ren xs fr tt) (e : NE) : e ∈ renT xs fr tt ↔ e ∈ xs.map (mvE fr tt) := by
  rw [h.mem e, List.mem_map]
  constructor
  · rintro (⟨a, ha, rfl⟩ | hx)
    · exact ⟨a, ((und_iff fr xs a).1 ha).1, rfl⟩
    · obtain ⟨h1, h2⟩ := List.mem_filter.1 hx
      obtain ⟨h3, h4⟩ := (away_iff fr e).1 h2
      exact ⟨e, h1, by unfold mvE; rw [mv_away h3 h4]⟩
  · rintro ⟨a, ha, rfl⟩
    cases hw : awayT fr a with
    | true =>
      obtain ⟨h3, h4⟩ := (away_iff fr a).1 hw
      right
      have : mvE fr tt a = a := by unfold mvE; rw [mv_away h3 h4]
      rw [this]
      exact List.mem_filter.2 ⟨ha, hw⟩
    | false => exact .inl ⟨a, List.mem_filter.2 ⟨ha, by rw [hw]; rfl⟩, rfl⟩
theorem Ren.at (h : Ren xs fr tt) {a : NE} (ha : a ∈ xs) : (a.1 = fr ∨ fr ∈ upsS a.1) ∨ (mvS fr tt a.1 = a.1) := by
  rcases Classical.em (a.1 = fr ∨ fr ∈ upsS a.1) with h' | h'
  · exact .inl h'
  · exact .inr (mv_away (fun e => h' (.inl e)) (fun e => h' (.inr e)))
theorem Ren.inj (h : Ren xs fr tt) {a b : NE} (ha : a ∈ xs) (hb : b ∈ xs) (e : mvS fr tt a.1 = mvS fr tt b.1) : a.1 = b.1 := by
  have hall : ∀ c ∈ xs, (c.1 = fr ∨ fr ∈ upsS c.1) → mvS fr tt c.1 = tt ∨ tt ∈ upsS (mvS fr tt c.1) := fun c hc hat => mv_under hat h.rt (h.all c ((und_iff fr xs c).2 ⟨hc, hat⟩))
  rcases h.at ha with ha' | ha' <;> rcases h.at hb with hb' | hb'
  · exact mv_inj ha' hb' e
  · have := hall a ha ha'
    rw [e, hb'] at this
    exact absurd this (h.under hb)
  · have := hall b hb hb'
    rw [← e, ha'] at this
    exact absurd this (h.under ha)
  · rw [ha', hb'] at e
    exact e
theorem Ren.unlikeAll (h : Ren xs fr tt) : Unlike (xs.map (mvE fr tt)) := by
  refine List.pairwise_map.2 (List.Pairwise.imp_of_mem (fun {a b} ha hb hab => ?_) h.ti.up)
  intro e
  have := h.inj ha hb e
  rw [this, ordS_refl] at hab
  omega
/-- the reference's row is the tree's -/
theorem Ren.ref (h : Ren xs fr tt) : putL ordS (xs.map (mvE fr tt)) = renT xs fr tt := by
  obtain ⟨h1, h2, _⟩ := putL_all ordS_ord _ (xs.map (mvE fr tt)) rfl h.unlikeAll
  refine up_ext ordS_ord _ _ h1 h.puts.2.up fun e => ?_
  rw [h2 e, h.mem2 e]
theorem Ren.length (h : Ren xs fr tt) : (renT xs fr tt).length = xs.length := by
  rw [← h.ref, (putL_all ordS_ord _ (xs.map (mvE fr tt)) rfl h.unlikeAll).2.2, List.length_map]
end
end Sw
/- The reference's Whole in general, Of and Right. -/
set_option linter.unusedVariables false
set_option linter.unusedSimpArgs false
namespace Sw
open Go
open Go.Proofs.YtjcbjocgachpjaaGreatDoor (awayT undT putT_len)
theorem put_end {xs : List NE} {p : ByteArray} (h : ∀ e ∈ xs, ordS e.1 p < 0) (n : Nd) (hu : Up ordS xs) : putN ordS p n xs = xs ++ [(p, n)] := by
  rw [put_filter ordS_ord p n xs hu, List.filter_eq_self.2 (fun e he => by simpa using h e he), List.filter_eq_nil_iff.2 (fun e he => by have := h e he; simp; omega)]
/-- the next entry of a tree's row may be put -/
theorem may_next {xs pre r : List NE} {x : NE} (h : TI xs) (hl : xs.length ≤ 500) (hx : xs = pre ++ x :: r) : mayT pre x.1 x.2 = 0 ∧ putT pre x.1 x.2 = pre ++ [x] := by
  have hxm : x ∈ xs := by rw [hx]; simp
  have hup := h.up
  rw [hx] at hup
  have hpx : ∀ e ∈ pre, ordS e.1 x.1 < 0 := fun e he => (List.pairwise_append.1 hup).2.2 e he x (List.mem_cons_self ..)
  have hpu : Up ordS pre := (List.pairwise_append.1 hup).1
  have hpm : ∀ e ∈ pre, e ∈ xs := fun e he => by rw [hx]; exact List.mem_append_left _ he
  have hlen : pre.length < 500 := by have := congrArg List.length hx; simp at this; omega
  have hm : mayT pre x.1 x.2 = 0 := by
    refine may_of (h.paths x hxm) (h.nod x hxm).1 (h.nod x hxm).2 (parentT_of ?_) (.inr (holds_no hpu (fun e he => h.paths e (hpm e he)) fun e he hq => ?_)) (fun _ => hlen)
    · rcases parent_last x.1 with ⟨_, h0⟩ | ⟨hne, hlast, h0⟩
      · exact .inl h0
      · right
        have hpm2 : parentS x.1 ∈ upsS x.1 := by rw [← hlast]; exact List.getLast_mem hne
        obtain ⟨d, hd1, hd2, hd3⟩ := h.par x hxm _ hpm2
        have hdp : d ∈ pre := by
          have hd := hd1
          rw [hx] at hd
          rcases List.mem_append.1 hd with hd | hd
          · exact hd
          · exfalso
            have ho := ups_order hpm2
            rw [← hd2] at ho
            rcases List.mem_cons.1 hd with rfl | hd
            · rw [ordS_refl] at ho; omega
            · have := (List.pairwise_cons.1 (List.pairwise_append.1 hup).2.1).1 d hd
              have hn := ordS_neg x.1 d.1
              omega
        rw [← hd2, getT_in hpu hdp]
        exact hd3
    · have ho := ups_order hq
      have h1 := hpx e he
      have hn := ordS_neg e.1 x.1
      omega
  have hput : putT pre x.1 x.2 = pre ++ [x] := by unfold putT; rw [if_pos hm, put_end hpx x.2 hpu]
  exact ⟨hm, hput⟩
theorem may_take {xs : List NE} (h : TI xs) (hl : xs.length ≤ 500) (i : Nat) (hi : i < xs.length) : mayT (xs.take i) xs[i].1 xs[i].2 = 0 ∧ putT (xs.take i) xs[i].1 xs[i].2 = xs.take (i + 1) := by
  obtain ⟨h1, h2⟩ := may_next h hl (pre := xs.take i) (x := xs[i]) (r := xs.drop (i + 1)) (by rw [← List.drop_eq_getElem_cons hi, List.take_append_drop])
  exact ⟨h1, by rw [h2, List.take_succ_eq_append_getElem hi]⟩
/-- a row that the reference calls a tree is one -/
theorem ti_of_puts {l : List NE} (h : (putsT [] l).2 = l) : TI l := by
  rw [← h]
  exact putsT_ti l TI.nil
end Sw
namespace Go.Proofs.YtjcbjocgachpjaaGreatDoor
open Go Go.RowKit
open Sw
theorem item_ne {a a' : ByteArray} {k m t k' m' t' : Int} {d d' : ByteArray} (h : ¬ ((a, (⟨k, m, t, d⟩ : Nd)) : NE) = (a', ⟨k', m', t', d'⟩)) :
    ¬ a.toList = a'.toList ∨ (a = a' ∧ ¬ k = k') ∨ (a = a' ∧ k = k' ∧ ¬ m = m') ∨ (a = a' ∧ k = k' ∧ m = m' ∧ ¬ t = t') ∨ (a = a' ∧ k = k' ∧ m = m' ∧ t = t' ∧ ¬ d.toList = d'.toList) := by
  have hd : ∀ x y : ByteArray, x.toList = y.toList → x = y := fun x y h => by rw [ByteArray.toList_eq, ByteArray.toList_eq] at h; exact dat_inj h
  by_cases h1 : a.toList = a'.toList
  · have e1 := hd _ _ h1
    by_cases h2 : k = k'
    · by_cases h3 : m = m'
      · by_cases h4 : t = t'
        · by_cases h5 : d.toList = d'.toList
          · have e5 := hd _ _ h5
            subst e1 h2 h3 h4 e5
            exact absurd rfl h
          · exact .inr (.inr (.inr (.inr ⟨e1, h2, h3, h4, h5⟩)))
        · exact .inr (.inr (.inr (.inl ⟨e1, h2, h3, h4⟩)))
      · exact .inr (.inr (.inl ⟨e1, h2, h3⟩))
    · exact .inr (.inl ⟨e1, h2⟩)
  · exact .inl h1
set_option maxRecDepth 100000 in
set_option maxHeartbeats 4000000 in
theorem ref16Whole_any (w : World) (u v : Value) (l m : List NE) (hu : SlV w 5 eCSN u l) (hv : SlV w 5 eCSN v m) :
    Calls Tryz.prog 15 #[u, v] w fun e w' => ∃ R : Bool, e = .returned (.bool R) ∧ (R = true ↔ l = m) ∧ Below w.heap.size w w' := by
  obtain ⟨A1, c1, rfl, hc11, hc12, hsl1⟩ := hu
  obtain ⟨A2, c2, rfl, hc21, hc22, hsl2⟩ := hv
  obtain ⟨n, hn⟩ : ∃ n, l.length = n := ⟨_, rfl⟩
  obtain ⟨n2, hn2⟩ : ∃ n2, m.length = n2 := ⟨_, rfl⟩
  rw [hn] at hc11 ⊢
  rw [hn2] at hc21 ⊢
  unfold maxLen at hc12 hc22
  have HL := Lib.hid (And.intro hn hn2); clear hn hn2
  have H1 := Lib.hid hsl1; clear hsl1
  have H2 := Lib.hid hsl2; clear hsl2
  by_cases hnn : n = n2
  · obtain rfl := hnn
    go_enter Tryz.func15, Tryz.ntmps15
    go_wp2_with fail
    go_loopw [13] (fun iv wr => ∃ i : Nat, i ≤ n ∧ iv = .int .i64 i ∧ (∀ k (hk : k < l.length) (hk2 : k < m.length), k < i → l[k] = m[k]) ∧ Below w.heap.size w wr) (fun iv _ => n - (intOf iv).toNat)
    case atStart => exact ⟨0, Nat.zero_le _, rfl, fun k _ _ h => absurd h (Nat.not_lt_zero _), Below.refl _ _⟩
    case round =>
      obtain ⟨i, hi, rfl, hall, hb⟩ := hrel
      have HA := Lib.hid hall; clear hall
      by_cases hlt : i < n
      · have hiL : i < l.length := by have := HL.out.1; omega
        have hiM : i < m.length := by have := HL.out.2; omega
        obtain ⟨b1, off1, rfl, hbb1, hcs1⟩ := (H1.out.below hb (Nat.le_refl _)) (by omega)
        obtain ⟨b2, off2, rfl, hbb2, hcs2⟩ := (H2.out.below hb (Nat.le_refl _)) (by omega)
        have c0 := hcs1 i hiL 0 (by omega)
        have c1' := hcs1 i hiL 1 (by omega)
        have c2' := hcs1 i hiL 2 (by omega)
        have c3' := hcs1 i hiL 3 (by omega)
        have c4 := hcs1 i hiL 4 (by omega)
        have d0 := hcs2 i hiM 0 (by omega)
        have d1 := hcs2 i hiM 1 (by omega)
        have d2 := hcs2 i hiM 2 (by omega)
        have d3 := hcs2 i hiM 3 (by omega)
        have d4 := hcs2 i hiM 4 (by omega)
        simp only [eCSN, List.getElem?_cons_succ, List.getElem?_cons_zero, Nat.add_zero] at c0 c1' c2' c3' c4 d0 d1 d2 d3 d4
        clear hcs1 hcs2
        have hi1 : (i : Int) < n := by omega
        have HT := Lib.hid (show l[i] = m[i] → ∀ k (hk : k < l.length) (hk2 : k < m.length), k < i + 1 → l[k] = m[k] from fun h k hk hk2 hki => by
          by_cases e : k = i
          · subst e; exact h
          · exact HA.out k hk hk2 (by omega))
        have HF := Lib.hid (show ¬ l[i] = m[i] → ¬ l = m from fun h e => h (by simp only [e]))
        obtain ⟨x, hx⟩ : ∃ x, l[i] = x := ⟨_, rfl⟩
        obtain ⟨y, hy⟩ : ∃ y, m[i] = y := ⟨_, rfl⟩
        rw [hx, hy] at HT HF
        simp only [hx] at c0 c1' c2' c3' c4
        simp only [hy] at d0 d1 d2 d3 d4
        clear hx hy
        have HB := Lib.hid hb; clear hb
        by_cases hxy : x = y
        · subst hxy
          have HT2 := Lib.hid (HT.out rfl)
          go_wp2_with fail
          go_region
          go_wp2_with fail
          go_roundw
          case rel => exact ⟨i + 1, by omega, by go_num, HT2.out, HB.out.drew⟩
          case measure => simp [intOf]; omega
        · have HF2 := Lib.hid (HF.out hxy)
          obtain ⟨a, ⟨k, mo, t, d⟩⟩ := x
          obtain ⟨a', ⟨k', mo', t', d'⟩⟩ := y
          simp only at c0 c1' c2' c3' c4 d0 d1 d2 d3 d4
          have hne := item_ne hxy
          clear hxy HT HF
          rcases hne with hne | ⟨rfl, hne⟩ | ⟨rfl, rfl, hne⟩ | ⟨rfl, rfl, rfl, hne⟩ | ⟨rfl, rfl, rfl, rfl, hne⟩
          all_goals
            go_wp2_with fail
            go_region
            go_wp2_with fail
            go_ret
            exact ⟨false, rfl, ⟨fun h => (by cases h), fun h => absurd h HF2.out⟩, HB.out.drew⟩
      · obtain rfl : i = n := by omega
        have hlm : l = m := List.ext_getElem (by rw [HL.out.1, HL.out.2]) fun k h1 h2 => HA.out k h1 h2 (by rw [← HL.out.1]; exact h1)
        have HB := Lib.hid (And.intro hb hlm); clear hb hlm
        go_wp2_with fail
        go_ret
        exact ⟨true, rfl, ⟨fun _ => HB.out.2, fun _ => rfl⟩, HB.out.1⟩
  · have hne : ((n : Int) != n2) = true := by rw [bne_iff_ne]; omega
    have HN := Lib.hid (show ¬ l = m from fun e => hnn (by rw [← HL.out.1, ← HL.out.2, e])); clear hnn
    go_enter Tryz.func15, Tryz.ntmps15
    go_wp2_with fail
    go_ret
    exact ⟨false, rfl, ⟨fun h => (by cases h), fun h => absurd h HN.out⟩, Below.refl _ _⟩
set_option maxRecDepth 100000 in
set_option maxHeartbeats 4000000 in
theorem ref16Of_any (w : World) (v : Value) (l : List NE) (h : SlV w 5 eCSN v l) (hl : l.length ≤ 500) (hin : ∀ x ∈ l, x.1.size ≤ 90000 ∧ NdIn x.2) :
    Calls Tryz.prog 14 #[v] w fun e w' => ∃ A j c, ∃ k : Int, e = .returned (.tuple #[.slice A j c, .int .i64 k, .int .i64 (putsT [] l).1]) ∧ ((putsT [] l).1 = 0 → OwnIt w' w.heap.size (.slice A j c) (putsT [] l).2) ∧ Below w.heap.size w w' := by
  obtain ⟨A, c, rfl, hc1, hc2, hsl⟩ := h
  obtain ⟨n, hn⟩ : ∃ n, l.length = n := ⟨_, rfl⟩
  rw [hn] at hc1 hl ⊢
  unfold maxLen at hc2
  have HL := Lib.hid (And.intro hn (And.intro hsl hin)); clear hn hsl hin
  go_enter Tryz.func14, Tryz.ntmps14
  go_wp2_with fail
  go_loopw [5, 12] (fun ov iv wr => ∃ (i : Nat) (ys : List NE), i ≤ n ∧ iv = .int .i64 i ∧ OwnIt wr w.heap.size ov ys ∧ putsT [] l = putsT ys (l.drop i) ∧ ys.length ≤ i ∧ Up ordS ys ∧ Paths ys ∧ (∀ e ∈ ys, e.1.size ≤ 90000) ∧ Below w.heap.size w wr) (fun _ iv _ => n - (intOf iv).toNat)
  case atStart => exact ⟨0, [], Nat.zero_le _, rfl, World.ownsRow_nil _ _ _ _, by rw [List.drop_zero], Nat.le_refl _, List.Pairwise.nil, fun _ h => absurd h (by simp), fun _ h => absurd h (by simp), Below.refl _ _⟩
  case round =>
    obtain ⟨i, ys, hi, rfl, ho, hps, hyl, hyu, hyp, hyo, hb⟩ := hrel
    obtain ⟨A5, c5, rfl, _, _, _⟩ := SlV_of_any ho
    by_cases hlt : i < n
    · have hiL : i < l.length := by rw [HL.out.1]; exact hlt
      obtain ⟨b, off, rfl, hbb, hcs⟩ := (HL.out.2.1.below hb (Nat.le_refl _)) (by omega)
      have c0 := hcs i hiL 0 (by omega)
      have c1 := hcs i hiL 1 (by omega)
      have c2 := hcs i hiL 2 (by omega)
      have c3' := hcs i hiL 3 (by omega)
      have c4 := hcs i hiL 4 (by omega)
      simp only [eCSN, List.getElem?_cons_succ, List.getElem?_cons_zero, Nat.add_zero] at c0 c1 c2 c3' c4
      clear hcs
      have hi1 : (i : Int) < n := by omega
      obtain ⟨hq, hni⟩ := HL.out.2.2 l[i] (List.getElem_mem hiL)
      have hst := putsT_step ys l i hiL
      obtain ⟨⟨q, kd, md, tm, dt⟩, hx⟩ : ∃ x, l[i] = x := ⟨_, rfl⟩
      simp only [hx] at c0 c1 c2 c3' c4 hq hni hst
      clear hx
      have hba := (Below.refl wr.heap.size wr).alloc (Nat.le_refl _) (.cells #[.string q, .int .i64 kd, .int .i64 md, .int .u32 tm, .string dt] 45)
      have HP := Lib.hid (ref16Put_any _ w.heap.size (.slice A5 ys.length c5) ys q ⟨kd, md, tm, dt⟩ (ho.below hba) (Nat.le_trans hb.size hba.size) hyu hyp (by omega) hyo (by omega) hni.t0 hni.t1 hni.size)
      have hpl := putT_len ys q ⟨kd, md, tm, dt⟩
      have hpu : Up ordS (putT ys q ⟨kd, md, tm, dt⟩) := by unfold putT; split; exact put_up ordS_ord _ _ _ hyu; exact hyu
      have hpo : ∀ e ∈ putT ys q ⟨kd, md, tm, dt⟩, e.1.size ≤ 90000 := fun e he => by
        unfold putT at he
        split at he
        · rcases put_mem q _ ys e he with rfl | he
          · exact hq
          · exact hyo e he
        · exact hyo e he
      have HQ := Lib.hid (And.intro (hps.trans hst) (And.intro (hb.trans (hba.mono hb.size)) (And.intro hpu (And.intro (hyp.ofPut q ⟨kd, md, tm, dt⟩) hpo)))); clear hba ho hps hst hb hpu hpo hyu hyp hyo
      generalize mayT ys q ⟨kd, md, tm, dt⟩ = why at *
      generalize putT ys q ⟨kd, md, tm, dt⟩ = zs at *
      simp only [Nd.c] at HP
      obtain ⟨ny, hny⟩ : ∃ ny, ys.length = ny := ⟨_, rfl⟩
      rw [hny] at HP hyl hpl
      rw [hny]
      clear hny
      go_wp2_with fail
      refine HP.out.mono ?_
      rintro e1 w3 ⟨r, rfl, ho3, hb3⟩
      obtain ⟨A6, c6, rfl, _, _, _⟩ := SlV_of_any ho3
      have H3 := Lib.hid (And.intro ho3 (HQ.out.2.1.trans (hb3.mono HQ.out.2.1.size))); clear ho3 hb3 HP
      by_cases hw : why = 0
      · have hwe : (why != 0) = false := by rw [hw]; rfl
        have HF := Lib.hid (show putsT [] l = putsT zs (l.drop (i + 1)) from by rw [HQ.out.1, if_pos hw]); clear hw
        go_wp2_with fail
        go_roundw
        case rel => exact ⟨i + 1, zs, by omega, by go_num, H3.out.1, HF.out, by omega, HQ.out.2.2.1, HQ.out.2.2.2.1, HQ.out.2.2.2.2, H3.out.2⟩
        case measure => simp [intOf]; omega
      · have hwe : (why != 0) = true := by rw [bne_iff_ne]; exact hw
        have HF := Lib.hid (show putsT [] l = (why, ys) from by rw [HQ.out.1, if_neg hw])
        have HW := Lib.hid hw; clear hw
        go_wp2_with fail
        refine bodyPost_ret (results_tmp3 rfl _ _ _) rfl ?_
        rw [HF.out]
        exact ⟨_, _, _, _, rfl, fun h => absurd h HW.out, H3.out.2⟩
    · obtain rfl : n = i := by omega
      rw [List.drop_of_length_le (by rw [HL.out.1]; omega)] at hps
      have hps' : putsT [] l = (0, ys) := hps
      have HF := Lib.hid (And.intro hps' (And.intro ho hb)); clear hps hps' ho hb hyu hyp hyo
      go_wp2_with fail
      refine bodyPost_ret (results_tmp3 rfl _ _ _) rfl ?_
      rw [HF.out.1]
      exact ⟨_, _, _, _, rfl, fun _ => HF.out.2.1, HF.out.2.2⟩
set_option maxRecDepth 100000 in
set_option maxHeartbeats 4000000 in
theorem ref16Right_any (w : World) (v : Value) (l : List NE) (h : SlV w 5 eCSN v l) (hl : l.length ≤ 500) (hin : ∀ x ∈ l, x.1.size ≤ 90000 ∧ NdIn x.2) :
    Calls Tryz.prog 5 #[v] w fun e w' => ∃ R : Bool, e = .returned (.bool R) ∧ (R = true ↔ putsT [] l = (0, l)) ∧ Below w.heap.size w w' := by
  have HO := Lib.hid (ref16Of_any w v l h hl hin)
  have HH := Lib.hid h
  obtain ⟨A, c, rfl, hc1, hc2, hsl⟩ := h
  obtain ⟨n, hn⟩ : ∃ n, l.length = n := ⟨_, rfl⟩
  rw [hn] at HO HH
  rw [hn]
  clear hsl hc1 hc2 hn hl
  obtain ⟨⟨why, ys⟩, hP⟩ : ∃ p, putsT [] l = p := ⟨_, rfl⟩
  rw [hP] at HO
  have HP := Lib.hid hP; clear hP
  simp only at HO
  by_cases hw : why = 0
  · have hwe : (why == 0) = true := by rw [hw]; rfl
    have HW := Lib.hid hw; clear hw
    go_enter Tryz.func5, Tryz.ntmps5
    go_wp2_with fail
    refine HO.out.mono ?_
    rintro e w1 ⟨A1, j1, c1, k1, rfl, ho1, hb1⟩
    have ho2 := ho1 HW.out
    have HWH := Lib.hid (ref16Whole_any w1 _ _ ys l ho2.slv (HH.out.below hb1 (Nat.le_refl _)))
    have HB := Lib.hid hb1; clear ho1 ho2 hb1 HO
    go_wp2_with fail
    refine HWH.out.mono ?_
    rintro e w2 ⟨R, rfl, hR, hb2⟩
    have HF := Lib.hid (And.intro hR (HB.out.trans (hb2.mono HB.out.size))); clear hR hb2 HWH
    go_wp2_with fail
    go_ret
    rw [HP.out]
    refine ⟨R, rfl, ?_, HF.out.2⟩
    rw [HF.out.1, HW.out]
    exact ⟨fun e => by rw [e], fun e => congrArg Prod.snd e⟩
  · have hwe : (why == 0) = false := by rw [beq_eq_false_iff_ne]; exact hw
    have HW := Lib.hid hw; clear hw
    go_enter Tryz.func5, Tryz.ntmps5
    go_wp2_with fail
    refine HO.out.mono ?_
    rintro e w1 ⟨A1, j1, c1, k1, rfl, ho1, hb1⟩
    have HB := Lib.hid hb1; clear ho1 hb1 HO
    go_wp2_with fail
    go_ret
    rw [HP.out]
    exact ⟨false, rfl, ⟨fun h => (by cases h), fun e => absurd (congrArg Prod.fst e) HW.out⟩, HB.out⟩
end Go.Proofs.YtjcbjocgachpjaaGreatDoor
/- tree.Of, at items that make a tree. -/
set_option linter.unusedVariables false
set_option linter.unusedSimpArgs false
namespace Go.Proofs.YtjcbjocgachpjaaGreatDoor
open Go Go.RowKit
open Sw
theorem parent_len (p : ByteArray) : (parentS p).size ≤ 200 := by
  rcases parent_last p with ⟨_, h⟩ | ⟨h, he, _⟩
  · rw [h]; decide
  · rw [← he, List.getLast_eq_getElem]; exact (ups_step p _ _).2.1
set_option maxRecDepth 100000 in
set_option maxHeartbeats 4000000 in
theorem treeOf_any (w : World) (v : Value) (l : List NE) (h : SlV w 5 eCSN v l) (hl : l.length ≤ 500) (hin : ∀ x ∈ l, x.1.size ≤ 90000 ∧ NdIn x.2) (hti : TI l) :
    Calls Tryz.prog 7 #[v] w fun e w' => ∃ bt bm, e = .returned (.tuple #[.pointer (some ⟨bt, 0, none⟩), .int .i64 l.length, .int .i64 0]) ∧ TreeAt w' bt bm l ∧ w.heap.size ≤ bt ∧ w.heap.size ≤ bm ∧ Below w.heap.size w w' := by
  obtain ⟨A, c, rfl, hc1, hc2, hsl⟩ := h
  obtain ⟨n, hn⟩ : ∃ n, l.length = n := ⟨_, rfl⟩
  rw [hn] at hc1 hl ⊢
  unfold maxLen at hc2
  have HL := Lib.hid (And.intro hn (And.intro hsl (And.intro hin hti))); clear hn hsl hin hti
  have HN := Lib.hid (treeNew_any w)
  go_enter Tryz.func7, Tryz.ntmps7
  go_wp2_with fail
  refine HN.out.mono ?_
  rintro e w1 ⟨bt, bm, rfl, hT, hbt, hbm, hb1⟩
  have H1 := Lib.hid (And.intro hT (And.intro hb1 (And.intro hbt hbm))); clear hT hb1 hbt hbm HN
  go_wp2_with fail
  go_loopw [12] (fun iv wr => ∃ i : Nat, i ≤ n ∧ iv = .int .i64 i ∧ TreeAt wr bt bm (l.take i) ∧ Below w.heap.size w wr) (fun iv _ => n - (intOf iv).toNat)
  case atStart => exact ⟨0, Nat.zero_le _, rfl, H1.out.1, H1.out.2.1⟩
  case round =>
    obtain ⟨i, hi, rfl, hT, hb⟩ := hrel
    by_cases hlt : i < n
    · have hiL : i < l.length := by rw [HL.out.1]; exact hlt
      obtain ⟨b, off, rfl, hbb, hcs⟩ := (HL.out.2.1.below hb (Nat.le_refl _)) (by omega)
      have c0 := hcs i hiL 0 (by omega)
      have c1 := hcs i hiL 1 (by omega)
      have c2 := hcs i hiL 2 (by omega)
      have c3' := hcs i hiL 3 (by omega)
      have c4 := hcs i hiL 4 (by omega)
      simp only [eCSN, List.getElem?_cons_succ, List.getElem?_cons_zero, Nat.add_zero] at c0 c1 c2 c3' c4
      clear hcs
      have hi1 : (i : Int) < n := by omega
      obtain ⟨hq, hni⟩ := HL.out.2.2.1 l[i] (List.getElem_mem hiL)
      obtain ⟨hm, hp⟩ := may_take HL.out.2.2.2 (by rw [HL.out.1]; exact hl) i hiL
      have hpar : (parentS l[i].1).size ≤ 90000 := Nat.le_trans (parent_len _) (by decide)
      obtain ⟨⟨q, kd, md, tm, dt⟩, hx⟩ : ∃ x, l[i] = x := ⟨_, rfl⟩
      simp only [hx] at c0 c1 c2 c3' c4 hq hni hm hp hpar
      clear hx
      have hba := (Below.refl wr.heap.size wr).alloc (Nat.le_refl _) (.cells #[.string q, .int .i64 kd, .int .i64 md, .int .u32 tm, .string dt] 45)
      have HP := Lib.hid (treePut_any _ bt bm (l.take i) q ⟨kd, md, tm, dt⟩ (hT.below hba) (by rw [List.length_take]; omega) hq hpar hni)
      rw [hm, hp] at HP
      simp only [Nd.c] at HP
      have HQ := Lib.hid (hb.trans (hba.mono hb.size)); clear hba hT hb hm hp hni hq hpar
      go_wp2_with fail
      refine HP.out.mono ?_
      rintro e1 w3 ⟨rfl, hT3, hg3⟩
      have H3 := Lib.hid (And.intro hT3 (HQ.out.grown hg3 HQ.out.size (fun k hk => by cases hk; exact H1.out.2.2.2))); clear hT3 hg3 HP
      go_wp2_with fail
      go_roundw
      case rel => exact ⟨i + 1, by omega, by go_num, H3.out.1, H3.out.2⟩
      case measure => simp [intOf]; omega
    · obtain rfl : i = n := by omega
      rw [List.take_of_length_le (by rw [HL.out.1]; omega)] at hT
      have HLN := Lib.hid (treeLen_any wr bt bm l hT)
      rw [HL.out.1] at HLN
      have H3 := Lib.hid (And.intro hT hb); clear hT hb
      go_wp2_with fail
      refine HLN.out.mono ?_
      rintro e w2 ⟨rfl, rfl⟩
      go_wp2_with fail
      refine bodyPost_ret (results_tmp3 rfl _ _ _) rfl ?_
      exact ⟨bt, bm, rfl, H3.out.1, H1.out.2.2.1, H1.out.2.2.2, H3.out.2⟩
end Go.Proofs.YtjcbjocgachpjaaGreatDoor
