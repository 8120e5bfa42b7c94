/- Several texts, joined for the limit of sixty files; each one opens with its own comment. -/
import Derived.Test.YtcpmhjealiajpaaGreatDoorJoin12
import Derived.Test.YtcpmhjealiajpaaGreatDoorJoin11
import Derived.Test.YtcpmhjealiajpaaGreatDoorJoin10
import Derived.Test.YtcpmhjealiajpaaGreatDoorJoin4
/- Renaming in a tree: plain. -/
set_option linter.unusedVariables false
set_option linter.unusedSimpArgs false
namespace Sw
open Go
open Go.Proofs.YtcpmhjealiajpaaGreatDoor (partsS awayT undT)
/-- an entry is put, whatever is said -/
abbrev putE (m : List NE) (e : NE) : List NE := putN ordS e.1 e.2 m
abbrev putO (m : List NE) (e : NE) : List NE := putT m e.1 e.2
theorem putAll_iff : ∀ (L base : List NE), Up ordS base → Unlike L → Up ordS (L.foldl putE base) ∧ ∀ e, e ∈ L.foldl putE base ↔ e ∈ L ∨ (e ∈ base ∧ ∀ r ∈ L, ¬ r.1 = e.1)
  | [], base, hu, _ => ⟨hu, fun e => by simp⟩
  | x :: L, base, hu, hl => by
    obtain ⟨hx, hl'⟩ := List.pairwise_cons.1 hl
    obtain ⟨h1, h2⟩ := putAll_iff L (putN ordS x.1 x.2 base) (put_up ordS_ord x.1 x.2 base hu) hl'
    refine ⟨h1, fun e => ?_⟩
    rw [List.foldl_cons, h2 e, put_iff hu]
    constructor
    · rintro (h | ⟨h | ⟨h, h'⟩, h3⟩)
      · exact .inl (List.mem_cons_of_mem _ h)
      · exact .inl (by rw [h]; exact List.mem_cons_self ..)
      · refine .inr ⟨h, fun r hr => ?_⟩
        rcases List.mem_cons.1 hr with rfl | hr
        · exact fun e' => h' e'.symm
        · exact h3 r hr
    · rintro (h | ⟨h, h3⟩)
      · rcases List.mem_cons.1 h with rfl | h
        · exact .inr ⟨.inl rfl, fun r hr e' => hx r hr e'.symm⟩
        · exact .inl h
      · exact .inr ⟨.inr ⟨h, fun e' => h3 x (List.mem_cons_self ..) e'.symm⟩, fun r hr => h3 r (List.mem_cons_of_mem _ hr)⟩
theorem putAll_fold : ∀ (L base : List NE), (∀ k (h : k < L.length), mayT ((L.take k).foldl putE base) L[k].1 L[k].2 = 0) → L.foldl putO base = L.foldl putE base
  | [], base, _ => rfl
  | x :: L, base, h => by
    have h0 : mayT base x.1 x.2 = 0 := h 0 (by simp)
    rw [List.foldl_cons, List.foldl_cons]
    have e : putO base x = putE base x := by show putT base x.1 x.2 = _; unfold putT; rw [if_pos h0]
    rw [e]
    exact putAll_fold L _ fun k hk => h (k + 1) (by simp; omega)
theorem putAll_ti : ∀ (L base : List NE), TI base → (∀ k (h : k < L.length), mayT ((L.take k).foldl putE base) L[k].1 L[k].2 = 0) → TI (L.foldl putE base)
  | [], base, h0, _ => h0
  | x :: L, base, h0, h => putAll_ti L _ (h0.putN (h 0 (by simp))) fun k hk => h (k + 1) (by simp; omega)
theorem filter_parts {α : Type} (f : α → Bool) : ∀ l : List α, (l.filter f).length + (l.filter fun x => !f x).length = l.length
  | [] => rfl
  | x :: l => by
    have := filter_parts f l
    cases h : f x <;> simp [h] <;> omega
theorem mem_before {U : List NE} (hu : Up ordS U) {d : NE} (hd : d ∈ U) (k : Nat) (hk : k < U.length) (h : ordS d.1 U[k].1 = -1) : d ∈ U.take k := by
  have hs := hd
  rw [← List.take_append_drop k U] at hs
  rcases List.mem_append.1 hs with h1 | h1
  · exact h1
  · rw [List.drop_eq_getElem_cons hk] at h1
    have hu2 : Up ordS (U[k] :: U.drop (k + 1)) := by
      rw [← List.drop_eq_getElem_cons hk]
      exact (List.pairwise_append.1 (by rw [List.take_append_drop]; exact hu : Up ordS (U.take k ++ U.drop k))).2.1
    rcases List.mem_cons.1 h1 with h1 | h1
    · rw [h1, ordS_refl] at h; omega
    · have h2 := hu2.head d h1
      have h3 := ordS_neg U[k].1 d.1
      omega
/-- an entry that is renamed -/
def mvE (fr tt : ByteArray) (e : NE) : NE := (mvS fr tt e.1, e.2)
/-- what is so where a path may be renamed -/
structure Ren (xs : List NE) (fr tt : ByteArray) : Prop where
  ti : TI xs
  len : xs.length ≤ 500
  rt : rightL tt.data.toList = true
  had : ∃ n, (fr, n) ∈ xs
  ne : ¬ fr = tt
  nu : ¬ fr ∈ upsS tt
  no : ∀ e ∈ xs, ¬ e.1 = tt
  par : parentS tt = ⟨#[]⟩ ∨ (getT xs (parentS tt)).kind = 2
  all : ∀ e ∈ undT fr xs, rightL (mvS fr tt e.1).data.toList = true
def renT (xs : List NE) (fr tt : ByteArray) : List NE := ((undT fr xs).map (mvE fr tt)).foldl putE (xs.filter (awayT fr))
section
variable {xs : List NE} {fr tt : ByteArray}
theorem Ren.under (h : Ren xs fr tt) {e : NE} (he : e ∈ xs) : ¬ (e.1 = tt ∨ tt ∈ upsS e.1) := fun hh => by
  rcases hh with hh | hh
  · exact h.no e he hh
  · obtain ⟨d, hd, h1, _⟩ := h.ti.par e he tt hh
    exact h.no d hd h1
theorem Ren.upU (h : Ren xs fr tt) : Up ordS (undT fr xs) := h.ti.up.filter _
theorem Ren.unlike (h : Ren xs fr tt) : Unlike ((undT fr xs).map (mvE fr tt)) := by
  refine List.pairwise_map.2 (List.Pairwise.imp_of_mem (fun {a b} ha hb hab => ?_) h.upU)
  intro e
  have := mv_inj ((und_iff fr xs a).1 ha).2 ((und_iff fr xs b).1 hb).2 e
  rw [this, ordS_refl] at hab
  omega
/-- what stayed has no key of what came -/
theorem Ren.apart (h : Ren xs fr tt) {x r : NE} (hx : x ∈ xs) (hr : r ∈ (undT fr xs).map (mvE fr tt)) : ¬ r.1 = x.1 := fun e => by
  obtain ⟨a, ha, rfl⟩ := List.mem_map.1 hr
  refine h.under hx ?_
  rw [← e]
  exact mv_under ((und_iff fr xs a).1 ha).2 h.rt (h.all a ha)
theorem Ren.state (h : Ren xs fr tt) (k : Nat) : Up ordS ((((undT fr xs).map (mvE fr tt)).take k).foldl putE (xs.filter (awayT fr))) ∧ ∀ e, e ∈ (((undT fr xs).map (mvE fr tt)).take k).foldl putE (xs.filter (awayT fr)) ↔ (∃ a ∈ (undT fr xs).take k, e = mvE fr tt a) ∨ e ∈ xs.filter (awayT fr) := by
  obtain ⟨h1, h2⟩ := putAll_iff (((undT fr xs).map (mvE fr tt)).take k) (xs.filter (awayT fr)) (h.ti.up.filter _) (List.Pairwise.sublist (List.take_sublist _ _) h.unlike)
  refine ⟨h1, fun e => ?_⟩
  rw [h2 e, ← List.map_take]
  constructor
  · rintro (h | ⟨h, _⟩)
    · obtain ⟨a, ha, rfl⟩ := List.mem_map.1 h; exact .inl ⟨a, ha, rfl⟩
    · exact .inr h
  · rintro (⟨a, ha, rfl⟩ | h')
    · exact .inl (List.mem_map.2 ⟨a, ha, rfl⟩)
    · refine .inr ⟨h', fun r hr => h.apart (List.mem_filter.1 h').1 ?_⟩
      obtain ⟨a, ha, rfl⟩ := List.mem_map.1 hr
      exact List.mem_map.2 ⟨a, List.mem_of_mem_take ha, rfl⟩
theorem Ren.may (h : Ren xs fr tt) (k : Nat) (hk : k < (undT fr xs).length) : mayT ((((undT fr xs).map (mvE fr tt)).take k).foldl putE (xs.filter (awayT fr))) (mvS fr tt (undT fr xs)[k].1) (undT fr xs)[k].2 = 0 := by
  obtain ⟨hS1, hS2⟩ := h.state k
  have hlen : ((((undT fr xs).map (mvE fr tt)).take k).foldl putE (xs.filter (awayT fr))).length ≤ (xs.filter (awayT fr)).length + k := by
    refine Nat.le_trans (putL_le (c := ordS) (((undT fr xs).map (mvE fr tt)).take k) (xs.filter (awayT fr))) ?_
    rw [List.length_take]
    omega
  have hpart : (xs.filter (awayT fr)).length + (undT fr xs).length = xs.length := filter_parts (awayT fr) xs
  have hx500 := h.len
  obtain ⟨S, hS⟩ : ∃ S, (((undT fr xs).map (mvE fr tt)).take k).foldl putE (xs.filter (awayT fr)) = S := ⟨_, rfl⟩
  rw [hS] at hS1 hS2 hlen
  rw [hS]
  obtain ⟨e, he⟩ : ∃ e, (undT fr xs)[k] = e := ⟨_, rfl⟩
  rw [he]
  have heU : e ∈ undT fr xs := by rw [← he]; exact List.getElem_mem hk
  obtain ⟨hex, hat⟩ := (und_iff fr xs e).1 heU
  have hq2 := h.all e heU
  have hnod := h.ti.nod e hex
  have hpS : Paths S := fun x hx => by
    rcases (hS2 x).1 hx with ⟨a, ha, rfl⟩ | hx
    · exact h.all a (List.mem_of_mem_take ha)
    · exact h.ti.paths x (List.mem_filter.1 hx).1
  refine may_of hq2 hnod.1 hnod.2 (parentT_of ?_) ?_ (fun _ => by omega)
  · rcases hat with hfe | hfe
    · rw [hfe, mv_self]
      rcases h.par with hp | hp
      · exact .inl hp
      · right
        have hd := getT_kind h.ti.up (p := parentS tt) (by rw [hp]; decide)
        have hup : ¬ parentS tt = ⟨#[]⟩ := fun e0 => by
          have := h.ti.paths _ hd
          have h0 : rightL (parentS tt).data.toList = true := this
          rw [e0] at h0
          exact absurd h0 (by decide)
        obtain ⟨_, hpm⟩ : upsS tt ≠ [] ∧ parentS tt ∈ upsS tt := by
          rcases parent_last tt with ⟨_, h0⟩ | ⟨hne, hl, _⟩
          · exact absurd h0 hup
          · exact ⟨hne, by rw [← hl]; exact List.getLast_mem hne⟩
        have hdS : (parentS tt, getT xs (parentS tt)) ∈ S := (hS2 _).2 (.inr (List.mem_filter.2 ⟨hd, (away_iff fr _).2 ⟨fun e0 => h.nu (e0 ▸ hpm), fun e0 => h.nu (ups_trans e0 hpm)⟩⟩))
        have := getT_in hS1 hdS
        rw [this]
        exact hp
    · right
      obtain ⟨hp1, hp2⟩ := mv_parent hfe hq2
      obtain ⟨_, hpm, _⟩ := ups_parent hfe
      obtain ⟨d, hd1, hd2, hd3⟩ := h.ti.par e hex _ hpm
      have hdU : d ∈ undT fr xs := (und_iff fr xs d).2 ⟨hd1, by rw [hd2]; exact hp2⟩
      have hdk : d ∈ (undT fr xs).take k := mem_before h.upU hdU k hk (by rw [he, hd2]; exact ups_order hpm)
      have hdS : mvE fr tt d ∈ S := (hS2 _).2 (.inl ⟨d, hdk, rfl⟩)
      have := getT_in hS1 hdS
      rw [hp1, ← hd2]
      have e2 : (mvE fr tt d).1 = mvS fr tt d.1 := rfl
      rw [e2] at this
      rw [this]
      exact hd3
  · rcases Classical.em (e.2.kind = 2) with hk2 | hk2
    · exact .inl hk2
    · right
      refine holds_no hS1 hpS fun x hx hq => ?_
      rcases (hS2 x).1 hx with ⟨a, ha, rfl⟩ | hx
      · have haU := List.mem_of_mem_take ha
        obtain ⟨hax, haa⟩ := (und_iff fr xs a).1 haU
        have := (mv_ups hat haa (h.ti.paths e hex) (h.ti.paths a hax) hq2 (h.all a haU)).1 hq
        obtain ⟨d, hd1, hd2, hd3⟩ := h.ti.par a hax e.1 this
        rw [up_key h.ti.up hd1 hex hd2] at hd3
        exact hk2 hd3
      · refine h.under (List.mem_filter.1 hx).1 (.inr ?_)
        rcases mv_under hat h.rt hq2 with h' | h'
        · rw [← h']; exact hq
        · exact ups_trans h' hq
/-- the tree's puts do what is wanted -/
theorem Ren.puts (h : Ren xs fr tt) : ((undT fr xs).map (mvE fr tt)).foldl putO (xs.filter (awayT fr)) = renT xs fr tt ∧ TI (renT xs fr tt) := by
  have hm : ∀ k (hk : k < ((undT fr xs).map (mvE fr tt)).length), mayT ((((undT fr xs).map (mvE fr tt)).take k).foldl putE (xs.filter (awayT fr))) ((undT fr xs).map (mvE fr tt))[k].1 ((undT fr xs).map (mvE fr tt))[k].2 = 0 := fun k hk => by
    rw [List.getElem_map]
    exact h.may k (by simpa using hk)
  exact ⟨putAll_fold _ _ hm, putAll_ti _ _ (h.ti.away fr) hm⟩
theorem Ren.mem (h : Ren xs fr tt) (e : NE) : e ∈ renT xs fr tt ↔ (∃ a ∈ undT fr xs, e = mvE fr tt a) ∨ e ∈ xs.filter (awayT fr) := by
  have := (h.state (undT fr xs).length).2 e
  rw [List.take_of_length_le (by simp), List.take_of_length_le (Nat.le_refl _)] at this
  exact this
theorem Ren.mem2 (h : Ren xs fr tt) (e : NE) : e ∈ renT xs fr tt ↔ e ∈ xs.map (mvE fr tt) := by
  rw [h.mem e, List.mem_map]
  constructor
  · rintro (⟨a, ha, rfl⟩ | hx)
    · exact ⟨a, ((und_iff fr xs a).1 ha).1, rfl⟩
    · obtain ⟨h1, h2⟩ := List.mem_filter.1 hx
      obtain ⟨h3, h4⟩ := (away_iff fr e).1 h2
      exact ⟨e, h1, by unfold mvE; rw [mv_away h3 h4]⟩
  · rintro ⟨a, ha, rfl⟩
    cases hw : awayT fr a with
    | true =>
      obtain ⟨h3, h4⟩ := (away_iff fr a).1 hw
      right
      have : mvE fr tt a = a := by unfold mvE; rw [mv_away h3 h4]
      rw [this]
      exact List.mem_filter.2 ⟨ha, hw⟩
    | false => exact .inl ⟨a, List.mem_filter.2 ⟨ha, by rw [hw]; rfl⟩, rfl⟩
theorem Ren.at (h : Ren xs fr tt) {a : NE} (ha : a ∈ xs) : (a.1 = fr ∨ fr ∈ upsS a.1) ∨ (mvS fr tt a.1 = a.1) := by
  rcases Classical.em (a.1 = fr ∨ fr ∈ upsS a.1) with h' | h'
  · exact .inl h'
  · exact .inr (mv_away (fun e => h' (.inl e)) (fun e => h' (.inr e)))
theorem Ren.inj (h : Ren xs fr tt) {a b : NE} (ha : a ∈ xs) (hb : b ∈ xs) (e : mvS fr tt a.1 = mvS fr tt b.1) : a.1 = b.1 := by
  have hall : ∀ c ∈ xs, (c.1 = fr ∨ fr ∈ upsS c.1) → mvS fr tt c.1 = tt ∨ tt ∈ upsS (mvS fr tt c.1) := fun c hc hat => mv_under hat h.rt (h.all c ((und_iff fr xs c).2 ⟨hc, hat⟩))
  rcases h.at ha with ha' | ha' <;> rcases h.at hb with hb' | hb'
  · exact mv_inj ha' hb' e
  · have := hall a ha ha'
    rw [e, hb'] at this
    exact absurd this (h.under hb)
  · have := hall b hb hb'
    rw [← e, ha'] at this
    exact absurd this (h.under ha)
  · rw [ha', hb'] at e
    exact e
theorem Ren.unlikeAll (h : Ren xs fr tt) : Unlike (xs.map (mvE fr tt)) := by
  refine List.pairwise_map.2 (List.Pairwise.imp_of_mem (fun {a b} ha hb hab => ?_) h.ti.up)
  intro e
  have := h.inj ha hb e
  rw [this, ordS_refl] at hab
  omega
/-- the reference's row is the tree's -/
theorem Ren.ref (h : Ren xs fr tt) : putL ordS (xs.map (mvE fr tt)) = renT xs fr tt := by
  obtain ⟨h1, h2, _⟩ := putL_all ordS_ord _ (xs.map (mvE fr tt)) rfl h.unlikeAll
  refine up_ext ordS_ord _ _ h1 h.puts.2.up fun e => ?_
  rw [h2 e, h.mem2 e]
theorem Ren.length (h : Ren xs fr tt) : (renT xs fr tt).length = xs.length := by
  rw [← h.ref, (putL_all ordS_ord _ (xs.map (mvE fr tt)) rfl h.unlikeAll).2.2, List.length_map]
/-- and back again -/
theorem Ren.back (h : Ren xs fr tt) : Ren (renT xs fr tt) tt fr ∧ renT (renT xs fr tt) tt fr = xs := by
  have hTI := h.puts.2
  obtain ⟨n, hn⟩ := h.had
  have hfr := h.ti.paths _ hn
  have hwas : ∀ a ∈ xs, mvS tt fr (mvS fr tt a.1) = a.1 := fun a ha => by
    rcases h.at ha with h' | h'
    · exact mv_back h' h.rt (h.all a ((und_iff fr xs a).2 ⟨ha, h'⟩))
    · rw [h', mv_away (fun e => h.no a ha e) (fun e => h.under ha (.inr e))]
  have hgone : ∀ e ∈ renT xs fr tt, ¬ (e.1 = fr ∨ fr ∈ upsS e.1) := fun e he hh => by
    rcases (h.mem e).1 he with ⟨a, ha, rfl⟩ | he
    · rcases mv_under ((und_iff fr xs a).1 ha).2 h.rt (h.all a ha) with h' | h'
      · have h'' : (mvE fr tt a).1 = tt := h'
        rw [h''] at hh
        rcases hh with hh | hh
        · exact h.ne hh.symm
        · exact h.nu hh
      · have h'' : tt ∈ upsS (mvE fr tt a).1 := h'
        rcases hh with hh | hh
        · rw [hh] at h''
          exact h.under hn (.inr h'')
        · -- both are ups of one path: one is above the other one
          obtain ⟨k1, a1, a2, a3, _⟩ := ups_mem hh
          obtain ⟨k2, b1, b2, b3, _⟩ := ups_mem h''
          rcases Nat.lt_trichotomy k1 k2 with hlt | heq | hgt
          · exact h.nu (ups_of (k := k1) a1 (by rw [b3, List.length_take]; omega) (by rw [a3, b3, List.take_take, Nat.min_eq_left (by omega)]))
          · exact h.ne (parts_inj (by rw [a3, b3, heq]) (by rw [a3, List.length_take]; omega))
          · exact h.under hn (.inr (ups_of (k := k2) b1 (by rw [a3, List.length_take]; omega) (by rw [b3, a3, List.take_take, Nat.min_eq_left (by omega)])))
    · obtain ⟨h1, h2⟩ := (away_iff fr e).1 (List.mem_filter.1 he).2
      exact hh.elim h1 h2
  have hR : Ren (renT xs fr tt) tt fr := by
    refine ⟨hTI, by rw [h.length]; exact h.len, hfr, ⟨n, (h.mem2 _).2 (List.mem_map.2 ⟨_, hn, by unfold mvE; rw [mv_self]⟩)⟩, fun e => h.ne e.symm, fun e => h.under hn (.inr e), fun e he e' => hgone e he (.inl e'), ?_, fun e he => ?_⟩
    · rcases parent_last fr with ⟨_, h0⟩ | ⟨hne, hl, h0⟩
      · exact .inl h0
      · right
        have hpm : parentS fr ∈ upsS fr := by rw [← hl]; exact List.getLast_mem hne
        obtain ⟨d, hd1, hd2, hd3⟩ := h.ti.par _ hn _ hpm
        have hdR : d ∈ renT xs fr tt := (h.mem d).2 (.inr (List.mem_filter.2 ⟨hd1, (away_iff fr d).2 ⟨fun e => ups_self (p := fr) (by rw [← hd2, e] at hpm; exact hpm), fun e => ups_self (p := fr) (by rw [hd2] at e; exact ups_trans e hpm)⟩⟩))
        rw [← hd2, getT_in hTI.up hdR]
        exact hd3
    · obtain ⟨a, ha, rfl⟩ := List.mem_map.1 ((h.mem2 e).1 ((und_iff tt _ e).1 he).1)
      have e2 : (mvE fr tt a).1 = mvS fr tt a.1 := rfl
      rw [e2, hwas a ha]
      exact h.ti.paths a ha
  refine ⟨hR, up_ext ordS_ord _ _ hR.puts.2.up h.ti.up fun e => ?_⟩
  rw [hR.mem2 e, List.mem_map]
  constructor
  · rintro ⟨b, hb, rfl⟩
    obtain ⟨a, ha, rfl⟩ := List.mem_map.1 ((h.mem2 b).1 hb)
    have : mvE tt fr (mvE fr tt a) = a := by unfold mvE; exact Prod.ext (hwas a ha) rfl
    rw [this]
    exact ha
  · intro he
    exact ⟨mvE fr tt e, (h.mem2 _).2 (List.mem_map.2 ⟨e, he, rfl⟩), by unfold mvE; exact Prod.ext (hwas e he) rfl⟩
theorem Ren.gets (h : Ren xs fr tt) : getT (renT xs fr tt) fr = ndZ ∧ getT (renT xs fr tt) tt = getT xs fr := by
  obtain ⟨n, hn⟩ := h.had
  have hb := h.back.1
  refine ⟨getT_out h.puts.2.up hb.no, ?_⟩
  have h1 : ((tt, n) : NE) ∈ renT xs fr tt := (h.mem2 _).2 (List.mem_map.2 ⟨_, hn, by unfold mvE; rw [mv_self]⟩)
  have h2 := getT_in h.puts.2.up h1
  have h3 := getT_in h.ti.up hn
  exact h2.trans h3.symm
end
end Sw
/- tree.Clone; dirfs.emptied: what is at a path and under it goes. -/
set_option linter.unusedVariables false
set_option linter.unusedSimpArgs false
namespace Go.Proofs.YtcpmhjealiajpaaGreatDoor
open Go Go.RowKit
open Sw
set_option maxRecDepth 100000 in
theorem treeClone_any (w : World) (bt bm : Nat) (xs : List NE) (h : TreeAt w bt bm xs) :
    Calls Tryz.prog 72 #[.pointer (some ⟨bt, 0, none⟩)] w fun e w' => ∃ bt' bm', e = .returned (.pointer (some ⟨bt', 0, none⟩)) ∧ TreeAt w' bt' bm' xs ∧ w.heap.size ≤ bt' ∧ w.heap.size ≤ bm' ∧ Below w.heap.size w w' := by
  have HN := Lib.hid (srtCloneSN_any w bm xs h.map)
  have c0 := h.box.cell 0
  simp at c0
  clear h
  go_enter Tryz.func72, Tryz.ntmps72
  go_wp2_with fail
  refine HN.out.mono ?_
  rintro e w1 ⟨bm', rfl, hm, hbm, hb1⟩
  have hba := (Below.refl w1.heap.size w1).alloc (Nat.le_refl _) (.cells #[.pointer (some ⟨bm', 0, none⟩)] 72)
  have HF := Lib.hid (And.intro (Blk.new w1 72 #[.pointer (some ⟨bm', 0, none⟩)]) (And.intro (hm.below hba) (hb1.trans (hba.mono hb1.size))))
  have hsz := hb1.size
  clear hm hb1 hba
  go_wp2_with fail
  go_ret
  exact ⟨_, bm', rfl, ⟨HF.out.1, HF.out.2.1⟩, hsz, hbm, HF.out.2.2⟩
theorem own_turn {W W' : World} {bt bm base : Nat} {xs : List NE} {v : Value} {l : List NE} (h : TreeAt W bt bm xs) (ho : OwnIt W base v l) (hg : W.grownBy W' (some bm)) : OwnIt W' base v l := by
  obtain ⟨u, hb, _⟩ := h.map.row
  exact ho.kept hg (.inr (own_ne_blk ho hb (by decide)))
theorem dropFold_len (L : List NE) : ∀ xs : List NE, (L.foldl (fun ys e => dropT ys e.1) xs).length ≤ xs.length := by
  induction L with
  | nil => intro xs; exact Nat.le_refl _
  | cons e L ih => intro xs; exact Nat.le_trans (ih _) (dropT_len xs e.1)
set_option maxRecDepth 100000 in
set_option maxHeartbeats 4000000 in
theorem emptied_any (w : World) (bt bm : Nat) (xs : List NE) (p : ByteArray) (h : TreeAt w bt bm xs) (hti : TI xs) (hn : xs.length ≤ 1000) (hp : p.size ≤ 90000) :
    Calls Tryz.prog 71 #[.pointer (some ⟨bt, 0, none⟩), .string p] w fun e w' => e = .returned (.tuple #[]) ∧ TreeAt w' bt bm (xs.filter (awayT p)) ∧ w.grownBy w' (some bm) := by
  have HU := Lib.hid (treeUnder_any w bt bm xs p h hn hp)
  have hok : ∀ e ∈ xs, e.1.size ≤ 90000 := fun e he => h.map.ok e he
  have hfold := empty_fold hti p
  obtain ⟨n, hL⟩ : ∃ n, (undT p xs).length = n := ⟨_, rfl⟩
  have hn2 : n ≤ 1000 := by rw [← hL]; exact Nat.le_trans (List.length_filter_le _ _) hn
  obtain ⟨U, hU⟩ : ∃ U, undT p xs = U := ⟨_, rfl⟩
  have hokU : ∀ e ∈ U.reverse, e.1.size ≤ 90000 := fun e he => by rw [List.mem_reverse, ← hU] at he; exact hok e (List.mem_filter.1 he).1
  rw [hU] at HU hL hfold
  have HH := Lib.hid h
  have HL := Lib.hid (And.intro hL (And.intro hfold hokU)); clear hL hfold hokU hok h hU hti
  go_enter Tryz.func71, Tryz.ntmps71
  go_wp2_with fail
  refine HU.out.mono ?_
  rintro e w1 ⟨r, rfl, ho, hb1⟩
  have HR := Lib.hid (slReverseIT_any w1 w.heap.size r n U HL.out.1 (by omega) (by have := ho; unfold OwnIt at this; rw [HL.out.1] at this; exact this))
  obtain ⟨A1, c1, rfl, _, hc1, _⟩ := SlV_of_any ho
  rw [HL.out.1] at HR
  rw [HL.out.1]
  have HB1 := Lib.hid (And.intro hb1 ho); clear hb1 ho HU
  go_wp2_with fail
  refine HR.out.mono ?_
  rintro e w2 ⟨rfl, ho2, hg2⟩
  have hb2 : Below w.heap.size w w2 := HB1.out.1.grown hg2 HB1.out.1.size (fun k hk => by rw [HL.out.1] at *; have := (HB1.out.2.lt k (by rw [HL.out.1]; exact hk)).1; exact this)
  have hO2 : OwnIt w2 w.heap.size (.slice A1 n c1) U.reverse := by unfold OwnIt; rw [List.length_reverse, HL.out.1]; exact ho2
  have H2 := Lib.hid (And.intro (HH.out.below hb2) (And.intro hO2 (grown_below hb2 : w.grownBy w2 (some bm)))); clear hb2 hO2 ho2 hg2 HB1 HR
  go_wp2_with fail
  go_loopw [14] (fun iv wr => ∃ i : Nat, i ≤ n ∧ iv = .int .i64 i ∧ TreeAt wr bt bm ((U.reverse.take i).foldl (fun ys e => dropT ys e.1) xs) ∧ OwnIt wr w.heap.size (.slice A1 n c1) U.reverse ∧ w.grownBy wr (some bm)) (fun iv _ => n - (intOf iv).toNat)
  case atStart => exact ⟨0, Nat.zero_le _, rfl, H2.out.1, H2.out.2.1, H2.out.2.2⟩
  case round =>
    obtain ⟨i, hi, rfl, ht, ho, hg⟩ := hrel
    by_cases hlt : i < n
    · have hiL : i < U.reverse.length := by rw [List.length_reverse, HL.out.1]; exact hlt
      obtain ⟨A', c', ex, -, -, hsl⟩ := ho.slv
      obtain ⟨rfl, -, rfl⟩ : A1 = A' ∧ n = U.reverse.length ∧ c1 = c' := by injection ex with a b c; exact ⟨a, b, c⟩
      obtain ⟨b, off, rfl, hbb, hcs⟩ := hsl (by omega)
      have c0 := hcs i hiL 0 (by omega)
      have c1' := hcs i hiL 1 (by omega)
      have c2 := hcs i hiL 2 (by omega)
      have c3' := hcs i hiL 3 (by omega)
      have c4 := hcs i hiL 4 (by omega)
      simp only [eCSN, List.getElem?_cons_succ, List.getElem?_cons_zero, Nat.add_zero] at c0 c1' c2 c3' c4
      clear hcs hsl ex
      have hi1 : (i : Int) < n := by omega
      have hq := HL.out.2.2 U.reverse[i] (List.getElem_mem hiL)
      have hstep : (U.reverse.take (i + 1)).foldl (fun ys e => dropT ys e.1) xs = dropT ((U.reverse.take i).foldl (fun ys e => dropT ys e.1) xs) U.reverse[i].1 := by rw [List.take_succ_eq_append_getElem hiL, List.foldl_append]; rfl
      have hlen := dropFold_len (U.reverse.take i) xs
      obtain ⟨x, hx⟩ : ∃ x, U.reverse[i] = x := ⟨_, rfl⟩
      simp only [hx] at c0 c1' c2 c3' c4 hq hstep
      clear hx
      have hba := (Below.refl wr.heap.size wr).alloc (Nat.le_refl _) (.cells #[.string x.1, .int .i64 x.2.kind, .int .i64 x.2.mode, .int .u32 x.2.time, .string x.2.data] 32)
      have htw := ht.below hba
      have how := ho.below hba
      have HD := Lib.hid (treeDrop_any _ bt bm _ x.1 htw (by omega) hq)
      have HG := Lib.hid (And.intro (grown_trans hg (grown_below hba)) (And.intro htw (And.intro how hstep)))
      clear htw how hstep hba ht ho hg hlen
      go_wp2_with fail
      refine HD.out.mono ?_
      rintro e w3 ⟨rfl, ht3, hg3⟩
      have H3 := Lib.hid (And.intro ht3 (And.intro (own_turn HG.out.2.1 HG.out.2.2.1 hg3) (grown_trans HG.out.1 hg3))); clear ht3 hg3 HD
      go_wp2_with fail
      go_roundw
      case rel => exact ⟨i + 1, by omega, by go_num, by rw [HG.out.2.2.2]; exact H3.out.1, H3.out.2.1, H3.out.2.2⟩
      case measure => simp [intOf]; omega
    · obtain rfl : i = n := by omega
      rw [List.take_of_length_le (by rw [List.length_reverse, HL.out.1]; omega), HL.out.2.1] at ht
      have HF := Lib.hid (And.intro ht hg); clear ht hg ho
      go_wp2_with fail
      go_end0
      exact ⟨rfl, HF.out.1, HF.out.2⟩
end Go.Proofs.YtcpmhjealiajpaaGreatDoor
/- dirfs: a live directory, its step. -/
set_option linter.unusedVariables false
set_option linter.unusedSimpArgs false
namespace Sw
/-- a live directory's state -/
structure DS where
  room : Int
  fuse : Int
  ops : Int
  off : Bool
  xs : List NE
/-- a change is done, if it may be, and there is power -/
def stepD (s : DS) (why : Int) (ys : List NE) : Int × DS :=
  if s.off = true then (10, s) else if ¬ why = 0 then (why, s) else if s.fuse = 0 then (10, { s with off := true }) else (0, { s with fuse := max (s.fuse - 1) (-1), ops := s.ops + 1, xs := ys })
structure DS.Ok (s : DS) (k : Nat) : Prop where
  f0 : -1 ≤ s.fuse
  f1 : s.fuse ≤ 9223372036854775807
  o0 : 0 ≤ s.ops
  o1 : s.ops ≤ k
theorem DS.Ok.step {s : DS} {k : Nat} (h : s.Ok k) (why : Int) (ys : List NE) : (stepD s why ys).2.Ok (k + 1) := by
  have := h.f0; have := h.f1; have := h.o0; have := h.o1
  unfold stepD
  split
  · exact ⟨h.f0, h.f1, h.o0, by simp; omega⟩
  · split
    · exact ⟨h.f0, h.f1, h.o0, by simp; omega⟩
    · split
      · exact ⟨h.f0, h.f1, h.o0, by simp; omega⟩
      · exact ⟨by simp; omega, by simp; omega, by simp; omega, by simp; omega⟩
end Sw
namespace Go.Proofs.YtcpmhjealiajpaaGreatDoor
open Go Go.RowKit
open Sw
theorem _root_.Go.Proofs.YtcpmhjealiajpaaGreatDoor.TreeAt.far {W W' : World} {bt bm g : Nat} {xs : List NE} {t : TypeId} {cs : Array Value} (h : TreeAt W bt bm xs) (hB : Blk W g t cs) (h1 : 72 ≠ t) (h2 : 96 ≠ t) (h3 : 103 ≠ t) (hg : W.grownBy W' (some g)) : TreeAt W' bt bm xs := by
  obtain ⟨v, hb, ho⟩ := h.map.row
  refine ⟨h.box.grown hg (by simpa using Blk.other h.box hB h1), ⟨v, hb.grown hg (by simpa using Blk.other hb hB h2), ho.kept hg (.inr (own_ne_blk ho hB h3))⟩, h.map.up, h.map.ok⟩
/-- a live directory in block bd, its tree in bt, the tree's map in bm -/
structure DirAt (w : World) (bd bt bm : Nat) (s : DS) : Prop where
  box : Blk w bd 88 #[.pointer (some ⟨bt, 0, none⟩), .int .i64 s.room, .int .i64 s.fuse, .bool s.off, .int .i64 s.ops]
  tree : TreeAt w bt bm s.xs
theorem DirAt.below {w w' : World} {bd bt bm : Nat} {s : DS} (h : DirAt w bd bt bm s) (hb : Below w.heap.size w w') : DirAt w' bd bt bm s := ⟨h.box.below hb h.box.lt, h.tree.below hb⟩
set_option maxRecDepth 100000 in
set_option maxHeartbeats 4000000 in
theorem step_any (w : World) (bd bt bm f : Nat) (caps : Array Value) (s : DS) (k : Nat) (why : Int) (ys : List NE) (h : DirAt w bd bt bm s) (hok : s.Ok k) (hk : k ≤ 1000) (eg : ∀ args w, (callFunc f args).run Tryz.prog w = .ok (.enter f args) w)
    (hcl : ∀ W bt' bm', Below w.heap.size w W → TreeAt W bt' bm' s.xs → w.heap.size ≤ bm' → Calls Tryz.prog f (#[.pointer (some ⟨bt', 0, none⟩)] ++ caps) W fun e w' => e = .returned (.int .i64 why) ∧ (why = 0 → TreeAt w' bt' bm' ys) ∧ W.grownBy w' (some bm')) :
    Calls Tryz.prog 65 #[.pointer (some ⟨bd, 0, none⟩), .func (.func f) #[] caps] w fun e w' => e = .returned (.int .i64 (stepD s why ys).1) ∧ (∃ bt' bm', DirAt w' bd bt' bm' (stepD s why ys).2) ∧ w.grownBy w' (some bd) := by
  obtain ⟨room, fuse, ops, off, xs⟩ := s
  have HC := Lib.hid (treeClone_any w bt bm xs h.tree)
  have hb := h.box
  have c0 := hb.cell 0
  have c2 := hb.cell 2
  have c3 := hb.cell 3
  have f3 := hb.frozen 3
  simp at c0 c2 c3
  obtain ⟨f0', f1', o0', o1'⟩ := hok
  simp only at f0' f1' o0' o1'
  have HH := Lib.hid (And.intro h hb); clear h hb
  cases off with
  | true =>
    go_enter Tryz.func65, Tryz.ntmps65
    go_wp2_with fail
    go_ret
    exact ⟨rfl, ⟨bt, bm, HH.out.1⟩, grown_refl _ _⟩
  | false =>
    have HCL := Lib.hid hcl; clear hcl
    go_enter Tryz.func65, Tryz.ntmps65
    go_wp2_with fail
    refine HC.out.mono ?_
    rintro e w1 ⟨bt', bm', rfl, ht, hbt, hbm, hb1⟩
    have hB1 := HH.out.2.below hb1 HH.out.2.lt
    have hlt := HH.out.2.lt
    have hT1 := HH.out.1.tree.below hb1
    have HCW := Lib.hid (HCL.out w1 bt' bm' hb1 ht hbm)
    have hg1 : w.grownBy w1 (some bd) := grown_below hb1
    have H1 := Lib.hid (And.intro hB1 (And.intro hT1 hg1)); clear hB1 hT1 hg1 hb1 ht HCL HC
    go_wp2_with fail
    refine HCW.out.mono ?_
    rintro e w2 ⟨rfl, ht2, hg2⟩
    have hB2 := H1.out.1.grown hg2 (by simp; omega)
    have hT2 : TreeAt w2 bt bm xs := by
      obtain ⟨v, hb, ho⟩ := HH.out.1.tree.map.row
      obtain ⟨v1, hb1, ho1⟩ := H1.out.2.1.map.row
      have hbl := hb.lt
      have hol := fun k hk => (ho.lt k hk).2
      have hxl := HH.out.1.tree.box.lt
      refine ⟨H1.out.2.1.box.grown hg2 (by simp; omega), ⟨v1, hb1.grown hg2 (by simp; omega), ho1.kept hg2 ?_⟩, H1.out.2.1.map.up, H1.out.2.1.map.ok⟩
      right
      intro he
      have hev : v1 = v := by
        have e1 := HH.out.1.tree.map
        have := H1.out.2.2.block bm hbl (by
          have := Blk.other hb HH.out.2 (by decide)
          simpa using this)
        unfold Blk at hb hb1
        rw [this, hb] at hb1
        injection hb1 with hb1
        injection hb1 with hb1
        have := congrArg (fun a : Array Value => a[1]?) hb1
        simpa using this.symm
      rw [hev] at he
      have := hol _ he
      omega
    have hg3 : w.grownBy w2 (some bd) := grown_sub H1.out.2.2 hg2 (fun g hg => by cases hg; exact hbm)
    have x0 := hB2.cell 0
    have x2 := hB2.cell 2
    have x3 := hB2.cell 3
    have x4 := hB2.cell 4
    have p0 := hB2.frozen 0
    have p2 := hB2.frozen 2
    have p3 := hB2.frozen 3
    have p4 := hB2.frozen 4
    simp at x0 x2 x3 x4
    have H2 := Lib.hid (And.intro hB2 (And.intro hT2 (And.intro hg3 ht2))); clear hB2 hT2 hg3 ht2 hg2 H1 HCW c0 c2 c3 f3
    by_cases hw : why = 0
    · by_cases hf : fuse = 0
      · have hwe : (why != 0) = false := by rw [hw]; rfl
        have hfe : (fuse == 0) = true := by rw [hf]; rfl
        have HE := Lib.hid (show stepD ⟨room, fuse, ops, false, xs⟩ why ys = (10, ⟨room, fuse, ops, true, xs⟩) from by unfold stepD; rw [if_neg (by simp), if_neg (by simpa using hw), if_pos hf])
        clear hw hf
        go_wp2_with fail
        go_ret
        rw [HE.out]
        have hgg := grown_put H2.out.2.2.1 3 (.bool true)
        exact ⟨rfl, ⟨bt, bm, by have := H2.out.1.put 3 (.bool true); simpa using this, H2.out.2.1.far H2.out.1 (by decide) (by decide) (by decide) (grown_put (grown_refl _ _) 3 _)⟩, hgg⟩
      · have hwe : (why != 0) = false := by rw [hw]; rfl
        have hfe : (fuse == 0) = false := by rw [beq_eq_false_iff_ne]; exact hf
        have hwr : IntKind.i64.wrap (fuse - 1) = fuse - 1 := IntWalk.i64_in _ (by omega)
        have hwo : IntKind.i64.wrap (ops + 1) = ops + 1 := IntWalk.i64_in _ (by omega)
        obtain ⟨F, hF⟩ : ∃ F, max (fuse - 1) (-1) = F := ⟨_, rfl⟩
        have HE := Lib.hid (show stepD ⟨room, fuse, ops, false, xs⟩ why ys = (0, ⟨room, F, ops + 1, false, ys⟩) from by unfold stepD; rw [if_neg (by simp), if_neg (by simpa using hw), if_neg hf]; simp [hF])
        have HT := Lib.hid (H2.out.2.2.2 hw)
        clear hw hf
        go_wp2_with fail
        go_ret
        rw [HE.out]
        have hgg := grown_put (grown_put (grown_put H2.out.2.2.1 2 (.int .i64 F)) 4 (.int .i64 (ops + 1))) 0 (.pointer (some ⟨bt', 0, none⟩))
        have hgl := grown_put (grown_put (grown_put (grown_refl w2 (some bd)) 2 (.int .i64 F)) 4 (.int .i64 (ops + 1))) 0 (.pointer (some ⟨bt', 0, none⟩))
        exact ⟨rfl, ⟨bt', bm', by have := ((H2.out.1.put 2 (.int .i64 F)).put 4 (.int .i64 (ops + 1))).put 0 (.pointer (some ⟨bt', 0, none⟩)); simpa using this, HT.out.far H2.out.1 (by decide) (by decide) (by decide) hgl⟩, hgg⟩
    · have hwe : (why != 0) = true := by rw [bne_iff_ne]; exact hw
      have HE := Lib.hid (show stepD ⟨room, fuse, ops, false, xs⟩ why ys = (why, ⟨room, fuse, ops, false, xs⟩) from by unfold stepD; rw [if_neg (by simp), if_pos hw])
      clear hw
      go_wp2_with fail
      go_ret
      rw [HE.out]
      exact ⟨rfl, ⟨bt, bm, H2.out.1, H2.out.2.1⟩, H2.out.2.2.1⟩
end Go.Proofs.YtcpmhjealiajpaaGreatDoor
/- dirfs: fits, Put, Remove, Clear. -/
set_option linter.unusedVariables false
set_option linter.unusedSimpArgs false
namespace Sw
open Go.Proofs.YtcpmhjealiajpaaGreatDoor (bytesT)
/-- is there no room for a tree? -/
def fitsW (room : Int) (ys : List NE) : Int := if 0 ≤ room ∧ room < (bytesT ys : Int) then 9 else 0
def putW (room : Int) (xs : List NE) (p : ByteArray) (n : Nd) : Int := if ¬ mayT xs p n = 0 then mayT xs p n else fitsW room (putT xs p n)
end Sw
namespace Go.Proofs.YtcpmhjealiajpaaGreatDoor
open Go Go.RowKit
open Sw
set_option maxRecDepth 100000 in
set_option maxHeartbeats 4000000 in
theorem fits_any (w : World) (bd bt bm : Nat) (ys : List NE) (a c d e : Value) (room : Int) (hB : Blk w bd 88 #[a, .int .i64 room, c, d, e]) (h : TreeAt w bt bm ys) (hn : ys.length ≤ 1000000) (hby : bytesT ys ≤ 1000000000) :
    Calls Tryz.prog 67 #[.pointer (some ⟨bd, 0, none⟩), .pointer (some ⟨bt, 0, none⟩)] w fun e w' => e = .returned (.int .i64 (fitsW room ys)) ∧ Below w.heap.size w w' := by
  have hl := hB.lt
  have k0 : ∀ m : Held (Aft w), (HeldW m).cell? ⟨bd, 1, none⟩ = some (.int .i64 room) := fun m => (Aft.cell m hl).trans (hB.cell 1)
  have HBY := Lib.hid (fun m : Held (Aft w) => treeBytes_any (HeldW m) bt bm ys (h.below (HeldW_spec m)) hn hby)
  unfold fitsW
  generalize bytesT ys = S at *
  haveI := Aft.some w
  clear h hB
  by_cases h0 : 0 ≤ room
  · by_cases h1 : room < (S : Int)
    · rw [if_pos ⟨h0, h1⟩]
      go_enter Tryz.func67, Tryz.ntmps67
      go_wp2_with fail
      refine wp_region_class (Aft w) (by kernel_rfl) (by kernel_rfl) (Aft.start w) ?_
      repeat (go_big_quiet_step (with_reducible exact held_below Aft.keep (HBY.out _)))
      refine wpQuiet_nil ?_
      rintro _ ⟨nn, rfl⟩
      have HW := Lib.hid (HeldW_spec nn)
      go_wp2_with fail
      go_ret
      exact ⟨rfl, HW.out⟩
    · rw [if_neg (fun h => h1 h.2)]
      have h2 : (S : Int) ≤ room := by omega
      go_enter Tryz.func67, Tryz.ntmps67
      go_wp2_with fail
      refine wp_region_class (Aft w) (by kernel_rfl) (by kernel_rfl) (Aft.start w) ?_
      repeat (go_big_quiet_step (with_reducible exact held_below Aft.keep (HBY.out _)))
      refine wpQuiet_nil ?_
      rintro _ ⟨nn, rfl⟩
      have HW := Lib.hid (HeldW_spec nn)
      go_wp2_with fail
      go_ret
      exact ⟨rfl, HW.out⟩
  · rw [if_neg (fun h => h0 h.1)]
    have h1 : decide (0 ≤ room) = false := decide_eq_false h0
    go_enter Tryz.func67, Tryz.ntmps67
    go_wp2_with fail
    refine wp_region_class (Aft w) (by kernel_rfl) (by kernel_rfl) (Aft.start w) ?_
    repeat (go_big_quiet_step (with_reducible exact held_below Aft.keep (HBY.out _)))
    refine wpQuiet_nil ?_
    rintro _ ⟨nn, rfl⟩
    have HW := Lib.hid (HeldW_spec nn)
    go_wp2_with fail
    go_ret
    exact ⟨rfl, HW.out⟩
theorem own_blk_turn {W W' : World} {bt bm g : Nat} {xs : List NE} {t : TypeId} {cs : Array Value} (h : TreeAt W bt bm xs) (hB : Blk W g t cs) (ht : 96 ≠ t) (hg : W.grownBy W' (some bm)) : Blk W' g t cs := by
  obtain ⟨u, hb, _⟩ := h.map.row
  exact hB.grown hg (by simpa using (Blk.other hb hB ht).symm)
set_option maxRecDepth 100000 in
set_option maxHeartbeats 4000000 in
theorem dput1_any (w : World) (bd bt bm gp gn gd : Nat) (xs : List NE) (p : ByteArray) (n : Nd) (a c d e : Value) (room : Int) (h : TreeAt w bt bm xs) (hn : xs.length ≤ 1000) (hp : p.size ≤ 90000) (hu : (parentS p).size ≤ 90000) (hin : NdIn n) (hby : bytesT (putT xs p n) ≤ 1000000000)
    (hP : Blk w gp 9 #[.string p]) (hN : Blk w gn 30 n.c) (hD : Blk w gd 50 #[.pointer (some ⟨bd, 0, none⟩)]) (hB : Blk w bd 88 #[a, .int .i64 room, c, d, e]) :
    Calls Tryz.prog 66 #[.pointer (some ⟨bt, 0, none⟩), .pointer (some ⟨gp, 0, none⟩), .pointer (some ⟨gn, 0, none⟩), .pointer (some ⟨gd, 0, none⟩)] w fun e w' => e = .returned (.int .i64 (putW room xs p n)) ∧ TreeAt w' bt bm (putT xs p n) ∧ w.grownBy w' (some bm) := by
  have HP := Lib.hid (treePut_any w bt bm xs p n h (by omega) hp hu hin)
  have hlen := putT_len xs p n
  have HH := Lib.hid (And.intro h (And.intro hD hB))
  have HE := Lib.hid (show putW room xs p n = if ¬ mayT xs p n = 0 then mayT xs p n else fitsW room (putT xs p n) from rfl)
  have c0 := hP.cell 0
  have d0 := hN.cell 0
  have d1 := hN.cell 1
  have d2 := hN.cell 2
  have d3 := hN.cell 3
  simp [Nd.c] at c0 d0 d1 d2 d3
  generalize putW room xs p n = R at *
  generalize mayT xs p n = why at *
  generalize putT xs p n = ys at *
  obtain ⟨kd, md, tm, dt⟩ := n
  simp only [Nd.c] at HP d0 d1 d2 d3
  clear h hP hN hD hB hin hu
  go_enter Tryz.func66, Tryz.ntmps66
  go_wp2_with fail
  refine HP.out.mono ?_
  rintro e1 w1 ⟨rfl, ht, hg⟩
  have hD1 := own_blk_turn HH.out.1 HH.out.2.1 (by decide) hg
  have hB1 := own_blk_turn HH.out.1 HH.out.2.2 (by decide) hg
  have x0 := hD1.cell 0
  simp at x0
  have HF := Lib.hid (fits_any w1 bd bt bm ys a c d e room hB1 ht (by omega) hby)
  have H1 := Lib.hid (And.intro ht hg); clear ht hg hD1 hB1 HH HP
  by_cases hw : why = 0
  · have hwe : (why != 0) = false := by rw [hw]; rfl
    have hR : R = fitsW room ys := by rw [HE.out, if_neg (by simpa using hw)]
    have HR := Lib.hid hR; clear hw hR
    go_wp2_with fail
    refine HF.out.mono ?_
    rintro e2 w2 ⟨rfl, hb2⟩
    have H2 := Lib.hid (And.intro (H1.out.1.below hb2) (grown_trans H1.out.2 (grown_below hb2))); clear hb2
    go_wp2_with fail
    go_ret
    rw [HR.out]
    exact ⟨rfl, H2.out.1, H2.out.2⟩
  · have hwe : (why != 0) = true := by rw [bne_iff_ne]; exact hw
    have HR := Lib.hid (show R = why from by rw [HE.out, if_pos hw]); clear hw
    go_wp2_with fail
    go_ret
    rw [HR.out]
    exact ⟨rfl, H1.out.1, H1.out.2⟩
set_option maxRecDepth 100000 in
set_option maxHeartbeats 4000000 in
theorem dirPut_any (w : World) (bd bt bm : Nat) (s : DS) (k : Nat) (p : ByteArray) (n : Nd) (h : DirAt w bd bt bm s) (hok : s.Ok k) (hk : k ≤ 1000) (hn : s.xs.length ≤ 1000) (hp : p.size ≤ 90000) (hu : (parentS p).size ≤ 90000) (hin : NdIn n) (hby : bytesT (putT s.xs p n) ≤ 1000000000) :
    Calls Tryz.prog 26 #[.pointer (some ⟨bd, 0, none⟩), .string p, .agg n.c] w fun e w' => e = .returned (.int .i64 (stepD s (putW s.room s.xs p n) (putT s.xs p n)).1) ∧ (∃ bt' bm', DirAt w' bd bt' bm' (stepD s (putW s.room s.xs p n) (putT s.xs p n)).2) ∧ w.grownBy w' (some bd) := by
  have hb1 := (Below.refl w.heap.size w).alloc (Nat.le_refl _) (.cells #[.pointer (some ⟨bd, 0, none⟩)] 50)
  have hD1 := Blk.new w 50 #[.pointer (some ⟨bd, 0, none⟩)]
  obtain ⟨w1, hw1⟩ : ∃ w1, w.alloc (.cells #[.pointer (some ⟨bd, 0, none⟩)] 50) = w1 := ⟨_, rfl⟩
  obtain ⟨gd, hgd⟩ : ∃ gd, w.heap.size = gd := ⟨_, rfl⟩
  rw [hw1] at hb1 hD1
  rw [hgd] at hD1
  have hb2 := (Below.refl w1.heap.size w1).alloc (Nat.le_refl _) (.cells #[.string p] 9)
  have hP1 := Blk.new w1 9 #[.string p]
  obtain ⟨w2, hw2⟩ : ∃ w2, w1.alloc (.cells #[.string p] 9) = w2 := ⟨_, rfl⟩
  obtain ⟨gp, hgp⟩ : ∃ gp, w1.heap.size = gp := ⟨_, rfl⟩
  rw [hw2] at hb2 hP1
  rw [hgp] at hP1
  have hb3 := (Below.refl w2.heap.size w2).alloc (Nat.le_refl _) (.cells n.c 30)
  have hN1 := Blk.new w2 30 n.c
  obtain ⟨w3, hw3⟩ : ∃ w3, w2.alloc (.cells n.c 30) = w3 := ⟨_, rfl⟩
  obtain ⟨gn, hgn⟩ : ∃ gn, w2.heap.size = gn := ⟨_, rfl⟩
  rw [hw3] at hb3 hN1
  rw [hgn] at hN1
  have hb13 := hb2.trans (hb3.mono hb2.size)
  have hbw := hb1.trans (hb13.mono hb1.size)
  have hD3 := hD1.below hb13 hD1.lt
  have hP3 := hP1.below hb3 hP1.lt
  have hd := h.below hbw
  have HG := Lib.hid (grown_below hbw : w.grownBy w3 (some bd))
  have HST := Lib.hid (step_any w3 bd bt bm 66 #[.pointer (some ⟨gp, 0, none⟩), .pointer (some ⟨gn, 0, none⟩), .pointer (some ⟨gd, 0, none⟩)] s k (putW s.room s.xs p n) (putT s.xs p n) hd hok hk (enters_of Tryz.func66 (by kernel_rfl) rfl)
    (fun W bt' bm' hb ht hbm => (dput1_any W bd bt' bm' gp gn gd s.xs p n _ _ _ _ s.room ht hn hp hu hin hby (hP3.below hb hP3.lt) (hN1.below hb hN1.lt) (hD3.below hb hD3.lt) (hd.box.below hb hd.box.lt)).mono fun e w' ⟨h1, h2, h3⟩ => ⟨h1, fun _ => h2, h3⟩))
  have x0 := hD3.cell 0
  simp at x0
  have e1 : gd + 1 = gp := by rw [← hgp, ← hw1, ← hgd]; simp
  have e2 : gp + 1 = gn := by rw [← hgn, ← hw2, ← hgp]; simp
  have HWW := Lib.hid (And.intro hw1 (And.intro hw2 (And.intro hw3 (And.intro hgd (And.intro e1 e2)))))
  clear hw1 hw2 hw3 hgd hgp hgn e1 e2 hb1 hb2 hb3 hD1 hP1 hN1 hb13 hbw hD3 hP3 hd h hok hu hin hby
  generalize stepD s (putW s.room s.xs p n) (putT s.xs p n) = R at *
  obtain ⟨kd, md, tm, dt⟩ := n
  simp only [Nd.c] at HWW
  go_enter Tryz.func26, Tryz.ntmps26
  simp only [Nd.c]
  go_wp2_with fail
  rw [HWW.out.1, HWW.out.2.1, HWW.out.2.2.1, HWW.out.2.2.2.1, HWW.out.2.2.2.2.1, HWW.out.2.2.2.2.2]
  refine HST.out.mono ?_
  rintro e w4 ⟨rfl, ⟨bt', bm', hd4⟩, hg4⟩
  have HF := Lib.hid (And.intro hd4 (grown_trans HG.out hg4)); clear hd4 hg4 HST
  go_wp2_with fail
  go_ret
  exact ⟨rfl, ⟨bt', bm', HF.out.1⟩, HF.out.2⟩
end Go.Proofs.YtcpmhjealiajpaaGreatDoor
/- dirfs: Remove, Clear. -/
set_option linter.unusedVariables false
set_option linter.unusedSimpArgs false
namespace Sw
open Go.Proofs.YtcpmhjealiajpaaGreatDoor (awayT)
/-- may what is at a path be cleared? -/
def clearW (xs : List NE) (p : ByteArray) : Int := if (getT xs p).kind = 0 then 7 else 0
end Sw
namespace Go.Proofs.YtcpmhjealiajpaaGreatDoor
open Go Go.RowKit
open Sw
set_option maxRecDepth 100000 in
theorem dremove1_any (w : World) (bt bm gp : Nat) (xs : List NE) (p : ByteArray) (h : TreeAt w bt bm xs) (hn : xs.length ≤ 1000) (hp : p.size ≤ 90000) (hP : Blk w gp 9 #[.string p]) :
    Calls Tryz.prog 75 #[.pointer (some ⟨bt, 0, none⟩), .pointer (some ⟨gp, 0, none⟩)] w fun e w' => e = .returned (.int .i64 (whyDrop xs p)) ∧ TreeAt w' bt bm (dropT xs p) ∧ w.grownBy w' (some bm) := by
  have HP := Lib.hid (treeDrop_any w bt bm xs p h (by omega) hp)
  have c0 := hP.cell 0
  simp at c0
  clear h hP
  go_enter Tryz.func75, Tryz.ntmps75
  go_wp2_with fail
  refine HP.out.mono ?_
  rintro e1 w1 ⟨rfl, ht, hg⟩
  have HF := Lib.hid (And.intro ht hg); clear ht hg HP
  go_wp2_with fail
  go_ret
  exact ⟨rfl, HF.out.1, HF.out.2⟩
set_option maxRecDepth 100000 in
set_option maxHeartbeats 4000000 in
theorem dclear1_any (w : World) (bt bm gp : Nat) (xs : List NE) (p : ByteArray) (h : TreeAt w bt bm xs) (hti : TI xs) (hn : xs.length ≤ 1000) (hp : p.size ≤ 90000) (hP : Blk w gp 9 #[.string p]) :
    Calls Tryz.prog 73 #[.pointer (some ⟨bt, 0, none⟩), .pointer (some ⟨gp, 0, none⟩)] w fun e w' => e = .returned (.int .i64 (clearW xs p)) ∧ (clearW xs p = 0 → TreeAt w' bt bm (xs.filter (awayT p))) ∧ w.grownBy w' (some bm) := by
  have HG := Lib.hid (treeGet_any w bt bm xs p h (by omega) hp)
  have HEM := Lib.hid (fun W (h : TreeAt W bt bm xs) => emptied_any W bt bm xs p h hti hn hp)
  have hfld := nodeField0
  have c0 := hP.cell 0
  simp at c0
  have HH := Lib.hid (And.intro h hP)
  have HE := Lib.hid (show clearW xs p = if (getT xs p).kind = 0 then 7 else 0 from rfl)
  generalize clearW xs p = R at *
  generalize getT xs p = n at *
  obtain ⟨kd, md, tm, dt⟩ := n
  simp only [Nd.c] at HG
  clear h hP hti
  by_cases hk : kd = 0
  · have hke : (kd == 0) = true := by rw [hk]; rfl
    have HK := Lib.hid (show R = 7 from by rw [HE.out]; exact if_pos hk); clear hk
    go_enter Tryz.func73, Tryz.ntmps73
    go_wp2_with fail
    refine HG.out.mono ?_
    rintro e1 w1 ⟨rfl, hb1⟩
    have HB := Lib.hid (grown_below hb1 : w.grownBy w1 (some bm)); clear hb1
    go_wp2_with fail
    go_ret
    rw [HK.out]
    exact ⟨rfl, fun h => absurd h (by decide), HB.out⟩
  · have hke : (kd == 0) = false := by rw [beq_eq_false_iff_ne]; exact hk
    have HK := Lib.hid (show R = 0 from by rw [HE.out]; exact if_neg hk); clear hk
    go_enter Tryz.func73, Tryz.ntmps73
    go_wp2_with fail
    refine HG.out.mono ?_
    rintro e1 w1 ⟨rfl, hb1⟩
    have hP1 := HH.out.2.below hb1 HH.out.2.lt
    have c1 := hP1.cell 0
    simp at c1
    have HE := Lib.hid (HEM.out w1 (HH.out.1.below hb1))
    have HB := Lib.hid (grown_below hb1 : w.grownBy w1 (some bm)); clear hb1 hP1 HG HEM c0
    go_wp2_with fail
    refine HE.out.mono ?_
    rintro e2 w2 ⟨rfl, ht, hg⟩
    have HF := Lib.hid (And.intro ht (grown_trans HB.out hg)); clear ht hg HE
    go_wp2_with fail
    go_ret
    rw [HK.out]
    exact ⟨rfl, fun _ => HF.out.1, HF.out.2⟩
set_option maxRecDepth 100000 in
set_option maxHeartbeats 4000000 in
theorem dirRemove_any (w : World) (bd bt bm : Nat) (s : DS) (k : Nat) (p : ByteArray) (h : DirAt w bd bt bm s) (hok : s.Ok k) (hk : k ≤ 1000) (hn : s.xs.length ≤ 1000) (hp : p.size ≤ 90000) :
    Calls Tryz.prog 33 #[.pointer (some ⟨bd, 0, none⟩), .string p] w fun e w' => e = .returned (.int .i64 (stepD s (whyDrop s.xs p) (dropT s.xs p)).1) ∧ (∃ bt' bm', DirAt w' bd bt' bm' (stepD s (whyDrop s.xs p) (dropT s.xs p)).2) ∧ w.grownBy w' (some bd) := by
  have hb1 := (Below.refl w.heap.size w).alloc (Nat.le_refl _) (.cells #[.string p] 9)
  have hP1 := Blk.new w 9 #[.string p]
  have hd := h.below hb1
  have HG := Lib.hid (grown_below hb1 : w.grownBy (w.alloc (.cells #[.string p] 9)) (some bd))
  have HST := Lib.hid (step_any _ bd bt bm 75 #[.pointer (some ⟨w.heap.size, 0, none⟩)] s k (whyDrop s.xs p) (dropT s.xs p) hd hok hk (enters_of Tryz.func75 (by kernel_rfl) rfl)
    (fun W bt' bm' hb ht hbm => (dremove1_any W bt' bm' w.heap.size s.xs p ht hn hp (hP1.below hb hP1.lt)).mono fun e w' ⟨h1, h2, h3⟩ => ⟨h1, fun _ => h2, h3⟩))
  clear hb1 hP1 hd h hok
  generalize stepD s (whyDrop s.xs p) (dropT s.xs p) = R at *
  go_enter Tryz.func33, Tryz.ntmps33
  go_wp2_with fail
  refine HST.out.mono ?_
  rintro e w4 ⟨rfl, ⟨bt', bm', hd4⟩, hg4⟩
  have HF := Lib.hid (And.intro hd4 (grown_trans HG.out hg4)); clear hd4 hg4 HST
  go_wp2_with fail
  go_ret
  exact ⟨rfl, ⟨bt', bm', HF.out.1⟩, HF.out.2⟩
set_option maxRecDepth 100000 in
set_option maxHeartbeats 4000000 in
theorem dirClear_any (w : World) (bd bt bm : Nat) (s : DS) (k : Nat) (p : ByteArray) (h : DirAt w bd bt bm s) (hti : TI s.xs) (hok : s.Ok k) (hk : k ≤ 1000) (hn : s.xs.length ≤ 1000) (hp : p.size ≤ 90000) :
    Calls Tryz.prog 30 #[.pointer (some ⟨bd, 0, none⟩), .string p] w fun e w' => e = .returned (.int .i64 (stepD s (clearW s.xs p) (s.xs.filter (awayT p))).1) ∧ (∃ bt' bm', DirAt w' bd bt' bm' (stepD s (clearW s.xs p) (s.xs.filter (awayT p))).2) ∧ w.grownBy w' (some bd) := by
  have hb1 := (Below.refl w.heap.size w).alloc (Nat.le_refl _) (.cells #[.string p] 9)
  have hP1 := Blk.new w 9 #[.string p]
  have hd := h.below hb1
  have HG := Lib.hid (grown_below hb1 : w.grownBy (w.alloc (.cells #[.string p] 9)) (some bd))
  have HST := Lib.hid (step_any _ bd bt bm 73 #[.pointer (some ⟨w.heap.size, 0, none⟩)] s k (clearW s.xs p) (s.xs.filter (awayT p)) hd hok hk (enters_of Tryz.func73 (by kernel_rfl) rfl)
    (fun W bt' bm' hb ht hbm => dclear1_any W bt' bm' w.heap.size s.xs p ht hti hn hp (hP1.below hb hP1.lt)))
  clear hb1 hP1 hd h hok hti
  generalize stepD s (clearW s.xs p) (s.xs.filter (awayT p)) = R at *
  go_enter Tryz.func30, Tryz.ntmps30
  go_wp2_with fail
  refine HST.out.mono ?_
  rintro e w4 ⟨rfl, ⟨bt', bm', hd4⟩, hg4⟩
  have HF := Lib.hid (And.intro hd4 (grown_trans HG.out hg4)); clear hd4 hg4 HST
  go_wp2_with fail
  go_ret
  exact ⟨rfl, ⟨bt', bm', HF.out.1⟩, HF.out.2⟩
end Go.Proofs.YtcpmhjealiajpaaGreatDoor
/- dirfs.target: may something be renamed so? -/
set_option linter.unusedVariables false
set_option linter.unusedSimpArgs false
namespace Sw
open Go.Proofs.YtcpmhjealiajpaaGreatDoor (awayT undT)
def targetT (xs : List NE) (fr tt : ByteArray) : Int :=
  if rightL tt.data.toList = false then 5
  else if (getT xs fr).kind = 0 then 7
  else if fr = tt ∨ inS (upsS tt) fr = true then 1
  else if ¬ (getT xs tt).kind = 0 then 6
  else if parentS tt = ⟨#[]⟩ then 0
  else if (getT xs (parentS tt)).kind = 0 then 7
  else if (getT xs (parentS tt)).kind = 1 then 8
  else 0
def renW (xs : List NE) (fr tt : ByteArray) : Int := if ¬ targetT xs fr tt = 0 then targetT xs fr tt else if ((undT fr xs).all fun e => rightL (mvS fr tt e.1).data.toList) = true then 0 else 4
theorem nodeR_kind {n : Nd} (h : nodeR n = 0) (h0 : ¬ n.kind = 0) : n.kind = 1 ∨ n.kind = 2 := by
  unfold nodeR at h
  by_cases h1 : ¬ n.kind = 0 ∧ ¬ n.kind = 1 ∧ ¬ n.kind = 2
  · rw [if_pos h1] at h; cases h
  · rcases Decidable.em (n.kind = 1) with h2 | h2
    · exact .inl h2
    · right
      exact Decidable.byContradiction fun h3 => h1 ⟨h0, h2, h3⟩
/-- where a rename is let through, all is as it must be -/
theorem ren_of {xs : List NE} {fr tt : ByteArray} (hti : TI xs) (hl : xs.length ≤ 500) (h : renW xs fr tt = 0) : Ren xs fr tt := by
  unfold renW at h
  by_cases ht : targetT xs fr tt = 0
  · rw [if_neg (by simpa using ht)] at h
    by_cases ha : ((undT fr xs).all fun e => rightL (mvS fr tt e.1).data.toList) = true
    · unfold targetT at ht
      by_cases t1 : rightL tt.data.toList = false
      · rw [if_pos t1] at ht; cases ht
      · rw [if_neg t1] at ht
        by_cases t2 : (getT xs fr).kind = 0
        · rw [if_pos t2] at ht; cases ht
        · rw [if_neg t2] at ht
          by_cases t3 : fr = tt ∨ inS (upsS tt) fr = true
          · rw [if_pos t3] at ht; cases ht
          · rw [if_neg t3] at ht
            by_cases t4 : (getT xs tt).kind = 0
            · rw [if_neg (by simpa using t4)] at ht
              refine ⟨hti, hl, by simpa using t1, ⟨_, getT_kind hti.up t2⟩, fun e => t3 (.inl e), fun e => t3 (.inr ((inS_iff _ _).2 e)), fun e he e' => ?_, ?_, fun e he => List.all_eq_true.1 ha e he⟩
              · have := getT_in hti.up he
                rw [e'] at this
                rw [this] at t4
                exact (hti.nod e he).1 t4
              · by_cases t5 : parentS tt = ⟨#[]⟩
                · exact .inl t5
                · rw [if_neg t5] at ht
                  by_cases t6 : (getT xs (parentS tt)).kind = 0
                  · rw [if_pos t6] at ht; cases ht
                  · rw [if_neg t6] at ht
                    by_cases t7 : (getT xs (parentS tt)).kind = 1
                    · rw [if_pos t7] at ht; cases ht
                    · right
                      exact (nodeR_kind (hti.nod _ (getT_kind hti.up t6)).2 t6).resolve_left t7
            · rw [if_pos t4] at ht; cases ht
    · rw [if_neg ha] at h; cases h
  · rw [if_pos ht] at h; exact absurd h ht
theorem ren_zero {xs : List NE} {fr tt : ByteArray} (h : Ren xs fr tt) : renW xs fr tt = 0 := by
  have ht : targetT xs fr tt = 0 := by
    unfold targetT
    obtain ⟨n, hn⟩ := h.had
    have h1 := getT_in h.ti.up hn
    rw [if_neg (by rw [h.rt]; simp), if_neg (by rw [show getT xs fr = n from h1]; exact (h.ti.nod _ hn).1), if_neg (fun hh => hh.elim h.ne (fun e => h.nu ((inS_iff _ _).1 e))), if_neg (by rw [getT_out h.ti.up h.no]; simp [ndZ])]
    rcases h.par with hp | hp
    · rw [if_pos hp]
    · by_cases t5 : parentS tt = ⟨#[]⟩
      · rw [if_pos t5]
      · rw [if_neg t5, if_neg (by rw [hp]; decide), if_neg (by rw [hp]; decide)]
  unfold renW
  rw [if_neg (by simpa using ht), if_pos (List.all_eq_true.2 h.all)]
end Sw
namespace Go.Proofs.YtcpmhjealiajpaaGreatDoor
open Go Go.RowKit
open Sw
set_option maxRecDepth 100000 in
set_option maxHeartbeats 8000000 in
theorem target_any (w : World) (bt bm : Nat) (xs : List NE) (fr tt : ByteArray) (h : TreeAt w bt bm xs) (hn : xs.length ≤ 1000) (hf : fr.size ≤ 90000) (ht : tt.size ≤ 90000) :
    Calls Tryz.prog 69 #[.pointer (some ⟨bt, 0, none⟩), .string fr, .string tt] w fun e w' => e = .returned (.int .i64 (targetT xs fr tt)) ∧ Below w.heap.size w w' := by
  have hpz : (parentS tt).size ≤ 90000 := by
    rcases parent_last tt with ⟨_, h⟩ | ⟨h, he, _⟩
    · rw [h]; decide
    · rw [← he, List.getLast_eq_getElem]; have := (ups_step tt _ (by have := List.length_pos_iff.2 h; omega : (upsS tt).length - 1 < (upsS tt).length)).2.1; omega
  have HR := Lib.hid (right_any w tt (by omega))
  have HGF := Lib.hid (fun W (h : TreeAt W bt bm xs) => treeGet_any W bt bm xs fr h (by omega) hf)
  have HGT := Lib.hid (fun W (h : TreeAt W bt bm xs) => treeGet_any W bt bm xs tt h (by omega) ht)
  have HU := Lib.hid (fun W => under_any W fr tt ht)
  have HP := Lib.hid (fun W => parent_any W tt (by omega))
  have HGP := Lib.hid (fun W (h : TreeAt W bt bm xs) => treeGet_any W bt bm xs (parentS tt) h (by omega) hpz)
  have hfld := nodeField0
  have hse := str_eq fr tt
  have HH := Lib.hid h; clear h hpz hn hf ht
  have HA := Lib.hid (show targetT xs fr tt = (if rightL tt.data.toList = false then 5 else if (getT xs fr).kind = 0 then 7 else if fr = tt ∨ inS (upsS tt) fr = true then 1 else if ¬ (getT xs tt).kind = 0 then 6 else if parentS tt = ⟨#[]⟩ then 0 else if (getT xs (parentS tt)).kind = 0 then 7 else if (getT xs (parentS tt)).kind = 1 then 8 else 0) from rfl)
  obtain ⟨D, hD⟩ : ∃ D, decide (fr = tt) = D := ⟨_, rfl⟩
  have HD := Lib.hid (show fr = tt ↔ D = true from by rw [← hD, decide_eq_true_eq])
  rw [hD] at hse
  clear hD
  generalize targetT xs fr tt = ans at *
  generalize rightL tt.data.toList = br at *
  generalize getT xs fr = gf at *
  generalize getT xs tt = gt at *
  generalize inS (upsS tt) fr = bu at *
  generalize getT xs (parentS tt) = gp at *
  obtain ⟨pu, hpu⟩ : ∃ pu, parentS tt = pu := ⟨_, rfl⟩
  rw [hpu] at HA HP HGP
  clear hpu
  obtain ⟨fk, fm, ft, fd⟩ := gf
  obtain ⟨tk, tm, tt', td⟩ := gt
  obtain ⟨pk, pm, pt, pd⟩ := gp
  simp only [Nd.c] at HGF HGT HGP HA
  go_enter Tryz.func69, Tryz.ntmps69
  go_wp2_with fail
  refine HR.out.mono ?_
  rintro e w1 ⟨rfl, hb1⟩
  have H1 := Lib.hid (And.intro hb1 (HH.out.below hb1)); clear hb1
  cases br with
  | false =>
    have HE := Lib.hid (show ans = 5 from by rw [HA.out]; rfl)
    go_wp2_with fail
    go_ret
    rw [HE.out]
    exact ⟨rfl, H1.out.1⟩
  | true =>
    have HF2 := Lib.hid (HGF.out w1 H1.out.2)
    go_wp2_with fail
    refine HF2.out.mono ?_
    rintro e w2 ⟨rfl, hb2⟩
    have H2 := Lib.hid (And.intro (H1.out.1.trans (hb2.mono H1.out.1.size)) (H1.out.2.below hb2)); clear hb2 HF2
    by_cases hfk : fk = 0
    · have hfe : (fk == 0) = true := by rw [hfk]; rfl
      have HE := Lib.hid (show ans = 7 from by rw [HA.out, if_neg (by simp), if_pos hfk]); clear hfk
      go_wp2_with fail
      go_ret
      rw [HE.out]
      exact ⟨rfl, H2.out.1⟩
    · have hfe : (fk == 0) = false := by rw [beq_eq_false_iff_ne]; exact hfk
      have HA2 := Lib.hid (show ans = (if fr = tt ∨ bu = true then 1 else if ¬ tk = 0 then 6 else if pu = ⟨#[]⟩ then 0 else if pk = 0 then 7 else if pk = 1 then 8 else 0) from by rw [HA.out, if_neg (by simp), if_neg hfk]); clear hfk
      cases D with
      | true =>
        have HE := Lib.hid (show ans = 1 from by rw [HA2.out, if_pos (.inl (HD.out.2 rfl))])
        go_wp2_with fail
        go_ret
        rw [HE.out]
        exact ⟨rfl, H2.out.1⟩
      | false =>
        go_wp2_with fail
        refine (HU.out w2).mono ?_
        rintro e w3 ⟨rfl, hb3⟩
        have H3 := Lib.hid (And.intro (H2.out.1.trans (hb3.mono H2.out.1.size)) (H2.out.2.below hb3)); clear hb3
        cases bu with
        | true =>
          have HE := Lib.hid (show ans = 1 from by rw [HA2.out, if_pos (.inr rfl)])
          go_wp2_with fail
          go_ret
          rw [HE.out]
          exact ⟨rfl, H3.out.1⟩
        | false =>
          have HA3 := Lib.hid (show ans = (if ¬ tk = 0 then 6 else if pu = ⟨#[]⟩ then 0 else if pk = 0 then 7 else if pk = 1 then 8 else 0) from by rw [HA2.out, if_neg (fun h => h.elim (fun e => by have := HD.out.1 e; cases this) (fun e => by cases e))])
          have HT2 := Lib.hid (HGT.out w3 H3.out.2)
          go_wp2_with fail
          refine HT2.out.mono ?_
          rintro e w4 ⟨rfl, hb4⟩
          have H4 := Lib.hid (And.intro (H3.out.1.trans (hb4.mono H3.out.1.size)) (H3.out.2.below hb4)); clear hb4 HT2
          by_cases htk : tk = 0
          · have hte : (tk != 0) = false := by rw [htk]; rfl
            have HA4 := Lib.hid (show ans = (if pu = ⟨#[]⟩ then 0 else if pk = 0 then 7 else if pk = 1 then 8 else 0) from by rw [HA3.out, if_neg (by simpa using htk)]); clear htk
            go_wp2_with fail
            refine (HP.out w4).mono ?_
            rintro e w5 ⟨rfl, hb5⟩
            have H5 := Lib.hid (And.intro (H4.out.1.trans (hb5.mono H4.out.1.size)) (H4.out.2.below hb5)); clear hb5
            by_cases hpu : pu = ⟨#[]⟩
            · have HE := Lib.hid (show ans = 0 from by rw [HA4.out, if_pos hpu])
              subst hpu
              go_wp2_with fail
              go_ret
              rw [HE.out]
              exact ⟨rfl, H5.out.1⟩
            · have s3 : pu.toList.isEmpty = false := by
                rw [ByteArray.toList_eq]
                cases hl : pu.data.toList with
                | nil => exact absurd (by cases hq : pu with | mk d => rw [hq] at hl; cases d with | mk l => simp at hl; subst hl; rfl) hpu
                | cons a l => rfl
              have HA5 := Lib.hid (show ans = (if pk = 0 then 7 else if pk = 1 then 8 else 0) from by rw [HA4.out, if_neg hpu]); clear hpu
              have HP2 := Lib.hid (HGP.out w5 H5.out.2)
              go_wp2_with fail
              refine HP2.out.mono ?_
              rintro e w6 ⟨rfl, hb6⟩
              have H6 := Lib.hid (H5.out.1.trans (hb6.mono H5.out.1.size)); clear hb6 HP2
              by_cases hp0 : pk = 0
              · have hpe : (pk == 0) = true := by rw [hp0]; rfl
                have HE := Lib.hid (show ans = 7 from by rw [HA5.out, if_pos hp0]); clear hp0
                go_wp2_with fail
                go_ret
                rw [HE.out]
                exact ⟨rfl, H6.out⟩
              · have hpe : (pk == 0) = false := by rw [beq_eq_false_iff_ne]; exact hp0
                by_cases hp1 : pk = 1
                · have hpe1 : (pk == 1) = true := by rw [hp1]; rfl
                  have HE := Lib.hid (show ans = 8 from by rw [HA5.out, if_neg hp0, if_pos hp1]); clear hp0 hp1
                  go_wp2_with fail
                  go_ret
                  rw [HE.out]
                  exact ⟨rfl, H6.out⟩
                · have hpe1 : (pk == 1) = false := by rw [beq_eq_false_iff_ne]; exact hp1
                  have HE := Lib.hid (show ans = 0 from by rw [HA5.out, if_neg hp0, if_neg hp1]); clear hp0 hp1
                  go_wp2_with fail
                  go_ret
                  rw [HE.out]
                  exact ⟨rfl, H6.out⟩
          · have hte : (tk != 0) = true := by rw [bne_iff_ne]; exact htk
            have HE := Lib.hid (show ans = 6 from by rw [HA3.out, if_pos htk]); clear htk
            go_wp2_with fail
            go_ret
            rw [HE.out]
            exact ⟨rfl, H4.out.1⟩
end Go.Proofs.YtcpmhjealiajpaaGreatDoor
